/- Own work, no conditions. -/
import Derived.Test.YtbiildmljbcmeaaDoorT35
import Derived.Test.YtbiildmljbcmeaaDoorP5
import Derived.Test.YtbiildmljbcmeaaDoorF44
import Derived.Test.YtbiildmljbcmeaaDoorF6
import Derived.Test.YtbiildmljbcmeaaDoorOFn
set_option maxRecDepth 20000
set_option linter.unusedSimpArgs false
set_option linter.unusedVariables false
set_option maxHeartbeats 16000000
section
open Ab Go TabE T1 T2 T3 T4 T7 T9 T11 T12 T13 T34
namespace T36
abbrev el (c:Int) (k:Bool) (n:Int) (fb:Bool) (b:List Int) (cb:Option Nat) (fs:Bool) (ss:List AV) (cs:Option Nat):AV:=.agg [.int .u8 c,.bool k,.int .u32 n,.sl fb (bs b) cb,.sl fs ss cs]
abbrev zel:AV:=.agg [.int .u8 0,.bool false,.int .u32 0,.sl true [] (some 0),.sl true [] (some 0)]
theorem nz {v:Int} (hv:v ≠ 0):(v != 0)=true:=by simp [hv]
theorem join0 (f c) (b:List Int) (hl:b.length ≤ 65536):Con E 10 123 [.sl f (bs b) c,.sl true [] (some 0)] (.sl false (bs b) (some b.length)):=by
  have:=joined f true c (some 0) b [] (by omega) (by simp)
  rw [List.append_nil] at this
  exact this
theorem put_err (f c) (b:List Int) (n v:Int) (hv:v ≠ 0) (K:Con E 50 122 [.sl f (bs b) c,.int .i64 n] (.int .i64 v)):Con E 100 75 [.sl f (bs b) c,.int .i64 n] (.tup [.sl true [] (some 0),.int .i64 v]):=by
  refine .of (g:=[]) (by simp [AV.pureL,AV.pure]) ?_
  rw [aCall_fn rfl (E_fn75) (by simp [AV.pureL,AV.pure]) (Nat.le_of_ble_eq_true rfl) rfl rfl,body_75,c75]
  simp [↓s_seq,↓s_reg,↓s_cond,↓s_cons,s_nil,s_val,s_calls,s_cax,s_ret,s_rgx,s_sqn,s_sqr,s_cdb,s_ret',s_finr,s_fin1,s_fix,s_clean,o_tmp,o_int,o_nil,l_hit,l_miss,ol_nil,ol_cons,ol_some,x_move,x_assign,x_bin,bn_s,x_callF,cl_no,frame0,binA,intOp,resL,resA,results1,sealA,sealLW,AV.pure,AV.pureL,keepT,gcH,K,nz hv]
theorem elem_err (f c) (b:List Int) (n v:Int) (hv:v ≠ 0) (P:Con E 100 75 [.sl f (bs b) c,.int .i64 n] (.tup [.sl true [] (some 0),.int .i64 v])):Con E 120 25 [.sl f (bs b) c,.int .i64 n] (.tup [zel,.int .i64 v]):=by
  refine .of (g:=[]) (by simp [AV.pureL,AV.pure]) ?_
  rw [aCall_fn rfl (E_fn25) (by simp [AV.pureL,AV.pure]) (Nat.le_of_ble_eq_true rfl) rfl rfl,body_25,c25]
  simp [↓s_seq,↓s_reg,↓s_cond,↓s_cons,s_nil,s_val,s_skip,s_calls,s_cax,s_ret,s_rgx,s_sqn,s_sqr,s_cdb,s_ret',s_finr,s_fin1,s_fix,s_clean,o_tmp,o_int,l_hit,l_miss,ol_nil,ol_cons,ol_some,x_move,x_assign,x_bin,bn_s,x_extract,x_callF,cl_no,frame0,binA,intOp,resL,resA,results1,sealA,sealLW,AV.pure,AV.pureL,keepT,x_alloc,x_build,bdx,x_store,stx,newK,genOf,setK,lookK,fillA,writeL,writeC,readC,TyI.mk1,AV.cells,AV.scal,gcH,reach,keysT,keepK,inKs,AV.keys,AV.keysL,Ty.isAgg,P,nz hv]
theorem elem_ok (f c) (b xs:List Int) (n:Int) (m:Nat) (P:Con E 100 75 [.sl f (bs b) c,.int .i64 n] (.tup [.sl false (bs xs) (some m),.int .i64 0])):Con E 120 25 [.sl f (bs b) c,.int .i64 n] (.tup [el 0 false 3 false xs (some m) true [] (some 0),.int .i64 0]):=by
  refine .of (g:=[]) (by simp [AV.pureL,AV.pure]) ?_
  rw [aCall_fn rfl (E_fn25) (by simp [AV.pureL,AV.pure]) (Nat.le_of_ble_eq_true rfl) rfl rfl,body_25,c25]
  simp [↓s_seq,↓s_reg,↓s_cond,↓s_cons,s_nil,s_val,s_skip,s_calls,s_cax,s_ret,s_rgx,s_sqn,s_cdb,s_ret',s_skip',s_finr,s_fin1,s_fix,s_clean,o_tmp,o_int,l_hit,l_miss,ol_nil,ol_cons,ol_some,x_move,x_assign,x_bin,bn_s,x_extract,x_callF,cl_no,frame0,binA,intOp,resL,resA,results1,sealA,sealLW,AV.pure,AV.pureL,keepT,x_alloc,x_build,bdx,x_store,stx,newK,genOf,setK,lookK,fillA,writeL,writeC,readC,TyI.mk1,AV.cells,AV.scal,gcH,reach,keysT,keepK,inKs,AV.keys,AV.keysL,Ty.isAgg,P]
section
variable {c:Int} {k:Bool} {n:Int} {fb:Bool} {b:List Int} {cb:Option Nat} {fs:Bool} {ss:List AV} {cs:Option Nat}
def tagd (c:Int) (k:Bool) (n m:Int):Prop:=c=0 ∧ k=false ∧ n=m
theorem cont_tag (m:Int) (h:¬ tagd c k n m):Con E 20 83 [el c k n fb b cb fs ss cs,.int .u32 m] (.tup [.sl true [] (some 0),.int .i64 9]):=by
  refine .of (g:=[]) (by simp [AV.pureL,AV.pure]) ?_
  rw [aCall_fn rfl (E_fn83) (by simp [AV.pureL,AV.pure]) (Nat.le_of_ble_eq_true rfl) rfl rfl,body_83,c83]
  unfold tagd at h
  by_cases h1:c=0
  · by_cases h2:k=false
    · have h3:¬ n=m:=fun q => h ⟨h1,h2,q⟩
      have e3:(n != m)=true:=by simp [h3]
      simp [↓s_seq,↓s_reg,↓s_cond,↓s_block,↓s_cons,s_nil,s_val,s_rgx,s_sqn,s_sqr,s_cdb,s_bkr,s_ret',s_finr,s_fin1,s_fix,s_clean,o_tmp,o_int,o_nil,l_hit,l_miss,ol_nil,ol_cons,ol_some,x_move,x_assign,x_bin,bn_s,frame0,binA,resL,resA,results1,sealA,AV.pure,AV.pureL,keepT,x_box,bxx,x_build,bdx,x_load,ldx,x_fieldAddr,newK,genOf,setK,lookK,fillA,writeL,readC,TyI.mk1,fieldAddrA,AV.cells,AV.scal,gcH,reach,keysT,keepK,inKs,AV.keys,AV.keysL,Ty.isAgg,eq1,eqL,h1,h2,h3,fitZ]
    · have h2:k=true:=by simpa using h2
      simp [↓s_seq,↓s_reg,↓s_cond,↓s_block,↓s_cons,s_nil,s_val,s_rgx,s_sqn,s_sqr,s_cdb,s_bkr,s_ret',s_finr,s_fin1,s_fix,s_clean,o_tmp,o_int,o_nil,l_hit,l_miss,ol_nil,ol_cons,ol_some,x_move,x_assign,x_bin,bn_s,frame0,binA,resL,resA,results1,sealA,AV.pure,AV.pureL,keepT,x_box,bxx,x_build,bdx,x_load,ldx,x_fieldAddr,newK,genOf,setK,lookK,fillA,writeL,readC,TyI.mk1,fieldAddrA,AV.cells,AV.scal,gcH,reach,keysT,keepK,inKs,AV.keys,AV.keysL,Ty.isAgg,eq1,eqL,h1,h2,fitZ]
  · have e1:(c == 0)=false:=by simp [h1]
    simp [↓s_seq,↓s_reg,↓s_cond,↓s_block,↓s_cons,s_nil,s_val,s_rgx,s_sqn,s_sqr,s_cdb,s_bkr,s_ret',s_finr,s_fin1,s_fix,s_clean,o_tmp,o_int,o_nil,l_hit,l_miss,ol_nil,ol_cons,ol_some,x_move,x_assign,x_bin,bn_s,frame0,binA,resL,resA,results1,sealA,AV.pure,AV.pureL,keepT,x_box,bxx,x_build,bdx,x_load,ldx,x_fieldAddr,newK,genOf,setK,lookK,fillA,writeL,readC,TyI.mk1,fieldAddrA,AV.cells,AV.scal,gcH,reach,keysT,keepK,inKs,AV.keys,AV.keysL,Ty.isAgg,eq1,eqL,e1,fitZ]
theorem cont_subs (m:Int) (h:tagd c k n m) (hs:ss ≠ []):Con E 20 83 [el c k n fb b cb fs ss cs,.int .u32 m] (.tup [.sl true [] (some 0),.int .i64 1]):=by
  refine .of (g:=[]) (by simp [AV.pureL,AV.pure]) ?_
  rw [aCall_fn rfl (E_fn83) (by simp [AV.pureL,AV.pure]) (Nat.le_of_ble_eq_true rfl) rfl rfl,body_83,c83]
  obtain ⟨rfl,rfl,rfl⟩:=h
  have hl:0 < ss.length:=List.length_pos_iff.2 hs
  simp [↓s_seq,↓s_reg,↓s_cond,↓s_block,↓s_cons,s_nil,s_val,s_rgx,s_sqn,s_sqr,s_cdb,s_bkr,s_ret',s_finr,s_fin1,s_fix,s_clean,o_tmp,o_int,o_nil,l_hit,l_miss,ol_nil,ol_cons,ol_some,x_move,x_assign,x_bin,bn_s,x_callB,frame0,binA,intOp,resL,resA,results1,sealA,AV.pure,AV.pureL,keepT,x_box,bxx,x_build,bdx,x_load,ldx,x_fieldAddr,newK,genOf,setK,lookK,fillA,writeL,writeC,readC,conts,TyI.mk1,fieldAddrA,appendA,copyA,builtinA,AV.cells,AV.scal,gcH,reach,keysT,keepK,inKs,AV.keys,AV.keysL,Ty.isAgg,eq1,eqL,hl,fitZ]
theorem cont_ok (m:Int) (h:tagd c k n m):Con E 20 83 [el c k n fb b cb fs [] cs,.int .u32 m] (.tup [.sl fb (bs b) cb,.int .i64 0]):=by
  refine .of (g:=[]) (by simp [AV.pureL,AV.pure]) ?_
  rw [aCall_fn rfl (E_fn83) (by simp [AV.pureL,AV.pure]) (Nat.le_of_ble_eq_true rfl) rfl rfl,body_83,c83]
  obtain ⟨rfl,rfl,rfl⟩:=h
  simp [↓s_seq,↓s_reg,↓s_cond,↓s_block,↓s_cons,s_nil,s_val,s_rgx,s_sqn,s_cdb,s_bkn,s_ret',s_skip',s_finr,s_fin1,s_fix,s_clean,o_tmp,o_int,o_nil,l_hit,l_miss,ol_nil,ol_cons,ol_some,x_move,x_assign,x_bin,bn_s,x_callB,frame0,binA,intOp,resL,resA,results1,sealA,AV.pure,AV.pureL,keepT,x_box,bxx,x_build,bdx,x_load,ldx,x_fieldAddr,newK,genOf,setK,lookK,fillA,writeL,writeC,readC,conts,TyI.mk1,fieldAddrA,appendA,copyA,builtinA,AV.cells,AV.scal,gcH,reach,keysT,keepK,inKs,AV.keys,AV.keysL,Ty.isAgg,eq1,eqL,fitZ]
theorem of_err (v:Int) (hv:v ≠ 0) (C:Con E 20 83 [el c k n fb b cb fs ss cs,.int .u32 3] (.tup [.sl true [] (some 0),.int .i64 v])):Con E 120 38 [el c k n fb b cb fs ss cs] (.tup [.sl true [] (some 0),.int .i64 0,.int .i64 v]):=by
  refine .of (g:=[]) (by simp [AV.pureL,AV.pure]) ?_
  rw [aCall_fn rfl (E_fn38) (by simp [AV.pureL,AV.pure]) (Nat.le_of_ble_eq_true rfl) rfl rfl,body_38,c38]
  simp [↓s_seq,↓s_reg,↓s_cond,↓s_cons,s_nil,s_val,s_calls,s_cax,s_ret,s_rgx,s_sqn,s_sqr,s_cdb,s_ret',s_finr,s_fin1,s_fix,s_clean,o_tmp,o_int,o_nil,l_hit,l_miss,ol_nil,ol_cons,ol_some,x_move,x_assign,x_bin,bn_s,x_extract,x_callF,cl_no,frame0,binA,intOp,resL,resA,results1,sealA,sealLW,AV.pure,AV.pureL,keepT,x_box,bxx,x_load,ldx,newK,genOf,setK,lookK,readC,TyI.mk1,AV.cells,AV.scal,gcH,reach,keysT,keepK,inKs,AV.keys,AV.keysL,Ty.isAgg,C,nz hv]
theorem of_get (h:tagd c k n 3) (f1:Bool) (xs:List Int) (c1:Option Nat) (j v:Int) (G:Con E 100 84 [.sl fb (bs b) cb] (.tup [.sl f1 (bs xs) c1,.int .i64 j,.int .i64 v])):Con E 120 38 [el c k n fb b cb fs [] cs] (.tup [.sl f1 (bs xs) c1,.int .i64 j,.int .i64 v]):=by
  have C:=cont_ok (fb:=fb) (b:=b) (cb:=cb) (fs:=fs) (cs:=cs) 3 h
  refine .of (g:=[]) (by simp [AV.pureL,AV.pure]) ?_
  rw [aCall_fn rfl (E_fn38) (by simp [AV.pureL,AV.pure]) (Nat.le_of_ble_eq_true rfl) rfl rfl,body_38,c38]
  simp [↓s_seq,↓s_reg,↓s_cond,↓s_cons,s_nil,s_val,s_calls,s_cax,s_ret,s_rgx,s_sqn,s_cdb,s_ret',s_skip',s_finr,s_fin1,s_fix,s_clean,o_tmp,o_int,o_nil,l_hit,l_miss,ol_nil,ol_cons,ol_some,x_move,x_assign,x_bin,bn_s,x_extract,x_callF,cl_no,frame0,binA,intOp,resL,resA,results1,sealA,sealLW,AV.pure,AV.pureL,keepT,x_box,bxx,x_load,ldx,newK,genOf,setK,lookK,readC,TyI.mk1,AV.cells,AV.scal,gcH,reach,keysT,keepK,inKs,AV.keys,AV.keysL,Ty.isAgg,C,G]
end
end T36
end
section
open Ab Go TabE
attribute [local simp ↓] s_seq s_reg s_regd s_cond s_block s_cons s_consG s_regD
attribute [local simp] s_nil s_loop s_round s_lpn s_lpe s_lpr firstReg s_gt s_gf s_wb s_wu s_val s_valN s_skip s_calls s_callP s_cax lookR flatR pureKs s_ret s_rgx s_sqn s_sqr s_sqe s_cdb s_bkn s_bkr s_bke s_exit s_ret' s_skip' s_finr s_finn s_fin1 s_fix s_clean s_gc0 o_tmp o_int o_bool o_nil o_str o_fn o_nil' l_hit l_miss l_nil ol_nil ol_cons ol_some x_move x_assign x_pick pk_t pk_f x_bin bn_s x_un x_extract x_callF cl_no x_callB x_callBF frzV x_conv cvx convA frame0 binA intOp resL resA results1 sealLW AV.pure AV.pureL keepT x_alloc x_box bxx x_build bdx x_buildSlice bsx x_buildSliceF bsf x_load ldx x_store stx x_slice slx x_fieldAddr x_field x_index ixx x_indexAddr iax x_makeSlice msx x_makeSliceF msf x_nilCheck newK genOf setK lookK fillA writeL writeC readC conts TyI.mk1 sliceA boundsA boundsB fitsA numA indexAddrA fieldAddrA partA fieldA indexA appendA copyA builtinA AV.cells chunk gcH reach keysT keepK inKs AV.keys AV.keysL Ty.isAgg eq1 eqL convA.go ltI w_u8 w_u32 w_u64 w_i64 w_fdiv w_tdiv w_tmod IntKind.bits unA sc_int sc_bool sc_str sc_sl sc_ref sc_ptr sc_pel sc_nilp sc_fn sc_nilf sc_if sc_nili sc_agg sc_tup sc_mem bs_pure bs_kl bs_length bs_cells bs_all sl_row sealRow sealY sl_int sl_bool sl_str sl_sl sl_nilp sl_nilf sl_nili sl_pel sl_agg sl_tup sl_fn sl_if nat_1 bs_cons bs_nil i_beq i_bne x_mkF x_mkI x_tassert x_panic s_pan s_sqp s_bkp s_finp s_fixp s_lpp s_rgp s_retp s_site s_stxN s_stxO x_callT clx El.avs_len s_dyn0 s_rgy barOf dynChk footL dynOK disjK keysOp opVals Op.operands
section
open Ab Go TabE Sp E34 F1 Rw F5 F6 F7 F8 F43 F47 AP A1 A2 A6 A7
namespace K1
theorem ck_rg {b:List Int} {n:Int} (h:T34.ck b n=0):0 ≤ n ∧ n ≤ 524288 ∧ 0 ≤ 8 * (b.length:Int) - n ∧ 8 * (b.length:Int) - n ≤ 7:=by
  unfold T34.ck at h
  split at h
  · cases h
  split at h
  · cases h
  split at h
  · cases h
  omega
theorem put (f:Bool) (c:Option Nat) (b:List Int) (n:Int) (hb:isB b) (hl:b.length ≤ 65536) (h:T34.ck b n=0):Con E 100 75 [.sl f (bs b) c,.int .i64 n] (.tup [.sl false (bs ((8 * (b.length:Int) - n) :: b)) (some (1 + b.length)),.int .i64 0]):=by
  obtain ⟨n0,n1,m0,m1⟩:=ck_rg h
  have C:=T34.chk f c b n hb hl
  rw [h] at C
  have u:=T11.unused n (8 * (b.length:Int) - n) n0 (by omega) (by omega)
  have C':=C 99 (by omega) 0
  have u':=u 99 (by omega) 0
  have J:=fun cc => T3.joined false f cc c [8 * (b.length:Int) - n] b (by simp) (by omega) 99 (by omega) 0
  have w:(8 * (b.length:Int) - n) % 256=8 * (b.length:Int) - n:=by omega
  have w':(8 * (b.length:Int) - n) % 18446744073709551616=8 * (b.length:Int) - n:=by omega
  refine con_of E_fn75 (by simp [AV.pureL,AV.pure]) (Nat.le_of_ble_eq_true rfl) rfl rfl (g:=[]) ?_
  rw [body_75,c75]
  simp [bs_cons,bs_nil] at J
  simp [C',u',w,w',J]
abbrev lb (b:List Int) (n:Nat):El:=.mk 0 false 3 false b (some n) true [] (some 0)
theorem elem (f:Bool) (c:Option Nat) (b:List Int) (n:Int) (hb:isB b) (hl:b.length ≤ 65536):Con E 120 25 [.sl f (bs b) c,.int .i64 n] (.tup [(if T34.ck b n=0 then (lb ((8 * (b.length:Int) - n) :: b) (1 + b.length)).av else E32.z0.av),.int .i64 (T34.ck b n)]):=by
  by_cases h:T34.ck b n=0
  · rw [if_pos h,h]
    exact T36.elem_ok f c b _ n _ (put f c b n hb hl h)
  · rw [if_neg h]
    have C:=T34.chk f c b n hb hl
    exact T36.elem_err f c b n _ h (T36.put_err f c b n _ h C)
end K1
end
end
section
open Ab Go TabE
namespace K2
theorem opc {run:RunF} {slot:Nat} {f:FuncId} {cs:List AV} {v:AV} {h:Heap} {key:Key} {hf:Heap} (hp:AV.pureL cs=true) (hv:v.pure=true) (hk:lookK h key=some (bx cs))
    (hl:lookK hf (0,0,0)=some (bx cs)) (hr:run f [.ptr (0,0,0) 0] [((0,0,0),bx cs)]=some (.ret v,hf)) :
    opened [true] true run slot f [.ptr key 0] h=some (.ret v,setK h key (bx cs)):=by
  have e1:sealM (sealA 20) [true] h [.ptr key 0]=some ([.ptr key 0],h):=by simp [sealM]
  have k1:AV.keysL cs=[]:=AV.keysL_pure _ hp
  have r1:∀ φ,AV.rnL φ cs=cs:=fun φ => rnL_pure cs hp
  unfold opened
  rw [e1]
  have e2:AV.keysL [.ptr key 0]=[key]:=by simp [AV.keysL,AV.keys]
  simp only [e2]
  have e3:dd (reach h 3 [key])=[key]:=by simp [reach,hk,k1,dd]
  rw [e3]
  unfold lendA
  have e4:lendH h (inK [key]) [key]=some [((0,0,0),bx cs)]:=by simp [lendH,hk,inK,posK,r1]
  rw [e4]
  have e6:closedH h [key] [key]=true:=by simp [closedH,hk,k1]
  simp only [e2]
  rw [if_pos ⟨e6,by simp [inKs]⟩]
  have e5:AV.rnL (inK [key]) [.ptr key 0]=[.ptr (0,0,0) 0]:=by simp [AV.rnL,AV.rn,inK,posK]
  rw [e5,hr]
  have e9:lentKs 1=[(0,0,0)]:=rfl
  have e7:dd (reach hf 3 ([(0,0,0)] ++ []))=[(0,0,0)]:=by simp [reach,hl,k1,dd]
  have e10:closedH hf [(0,0,0)] [(0,0,0)]=true:=by simp [closedH,hl,k1]
  have e8:AV.keysL [v]=[]:=by simp [AV.keysL,AV.keys_pure v hv]
  have e11:∀ g:Heap,sealA 20 g v=some (v,g):=fun g => sealA_of_pure hv
  have e12:∀ φ,AV.rnL φ [v]=[v]:=fun φ => by simp [AV.rnL,rn_pure v hv]
  simp only [backR,if_true,e11,backV,Ab.back,List.length_singleton,e8,e9,e7,backA]
  rw [if_pos ⟨e10,by rfl,by rfl,by rfl⟩]
  simp [AV.rnL,AV.rn,rn_pure v hv,outK,posK,putAll,hl,r1]
end K2
end
section
open Ab Go TabE
attribute [local simp ↓] s_seq s_reg s_regd s_cond s_block s_cons s_consG s_regD
attribute [local simp] s_nil s_loop s_round s_lpn s_lpe s_lpr firstReg s_gt s_gf s_wb s_wu s_val s_valN s_skip s_calls s_callP s_cax lookR flatR pureKs s_ret s_rgx s_sqn s_sqr s_sqe s_cdb s_bkn s_bkr s_bke s_exit s_ret' s_skip' s_finr s_finn s_fin1 s_fix s_clean s_gc0 o_tmp o_int o_bool o_nil o_str o_fn o_nil' l_hit l_miss l_nil ol_nil ol_cons ol_some x_move x_assign x_pick pk_t pk_f x_bin bn_s x_un x_extract x_callF cl_no x_callB x_callBF frzV x_conv cvx convA frame0 binA intOp resL resA results1 sealLW AV.pure AV.pureL keepT x_alloc x_box bxx x_build bdx x_buildSlice bsx x_buildSliceF bsf x_load ldx x_store stx x_slice slx x_fieldAddr x_field x_index ixx x_indexAddr iax x_makeSlice msx x_makeSliceF msf x_nilCheck newK genOf setK lookK fillA writeL writeC readC conts TyI.mk1 sliceA boundsA boundsB fitsA numA indexAddrA fieldAddrA partA fieldA indexA appendA copyA builtinA AV.cells chunk gcH reach keysT keepK inKs AV.keys AV.keysL Ty.isAgg eq1 eqL convA.go ltI w_u8 w_u32 w_u64 w_i64 w_fdiv w_tdiv w_tmod IntKind.bits unA sc_int sc_bool sc_str sc_sl sc_ref sc_ptr sc_pel sc_nilp sc_fn sc_nilf sc_if sc_nili sc_agg sc_tup sc_mem bs_pure bs_kl bs_length bs_cells bs_all sl_row sealRow sealY sl_int sl_bool sl_str sl_sl sl_nilp sl_nilf sl_nili sl_pel sl_agg sl_tup sl_fn sl_if nat_1 bs_cons bs_nil i_beq i_bne x_mkF x_mkI x_tassert x_panic s_pan s_sqp s_bkp s_finp s_fixp s_lpp s_rgp s_retp s_site s_stxN s_stxO x_callT clx El.avs_len s_dyn0 s_rgy barOf dynChk footL dynOK disjK keysOp opVals Op.operands
section
open Ab Go TabE Sp E34 F1 Rw F5 F6 F7 F8 F43 F47 AP A1 A2 A6 A7 K1
namespace K3
abbrev kc (n x0 x1 x2 x3 x4 x5 x6 x7 x8 x9 x10 x11 x12 x13 x14 x15:Int) (b:Bool) (p:El) (f:Bool) (o:List Int) (c:Option Nat) (m:Int):List AV:=[.int .u8 n,.int .u32 x0,.int .u32 x1,.int .u32 x2,.int .u32 x3,.int .u32 x4,.int .u32 x5,.int .u32 x6,.int .u32 x7,.int .u32 x8,.int .u32 x9,.int .u32 x10,.int .u32 x11,.int .u32 x12,.int .u32 x13,.int .u32 x14,.int .u32 x15,.bool b,.int .u8 p.c,.bool p.k,.int .u32 p.n,.sl p.fb (bs p.b) p.cb,.sl p.fs (El.avs p.s) p.cs,.sl f (bs o) c,.int .i64 m]
abbrev kg (n x0 x1 x2 x3 x4 x5 x6 x7 x8 x9 x10 x11 x12 x13 x14 x15:Int) (b:Bool) (p:El) (f:Bool) (o:List Int) (c:Option Nat) (m:Int):AV:=.agg [.int .u8 n,.int .u32 x0,.int .u32 x1,.int .u32 x2,.int .u32 x3,.int .u32 x4,.int .u32 x5,.int .u32 x6,.int .u32 x7,.int .u32 x8,.int .u32 x9,.int .u32 x10,.int .u32 x11,.int .u32 x12,.int .u32 x13,.int .u32 x14,.int .u32 x15,.bool b,.int .u8 p.c,.bool p.k,.int .u32 p.n,.sl p.fb (bs p.b) p.cb,.sl p.fs (El.avs p.s) p.cs,.sl f (bs o) c,.int .i64 m]
abbrev Ea (K:Nat) (n x0 x1 x2 x3 x4 x5 x6 x7 x8 x9 x10 x11 x12 x13 x14 x15:Int) (b:Bool) (p y:El) (w:Int):Prop:=∀ h,aCall E K 0 19 [ag n x0 x1 x2 x3 x4 x5 x6 x7 x8 x9 x10 x11 x12 x13 x14 x15 b p] h=some (.ret (.tup [y.av,.int .i64 w]),h)
abbrev Eb (K:Nat) (f:Bool) (o:List Int) (c:Option Nat) (m:Int) (y:El) (w:Int):Prop:=∀ h,aCall E K 0 25 [.sl f (bs o) c,.int .i64 m] h=some (.ret (.tup [y.av,.int .i64 w]),h)
theorem kp (n x0 x1 x2 x3 x4 x5 x6 x7 x8 x9 x10 x11 x12 x13 x14 x15:Int) (b:Bool) (p:El) (f:Bool) (o:List Int) (c:Option Nat) (m:Int):AV.pureL (kc n x0 x1 x2 x3 x4 x5 x6 x7 x8 x9 x10 x11 x12 x13 x14 x15 b p f o c m)=true:=by simp [AV.pureL,AV.pure,El.avs_pure]
theorem cloA (K:Nat) (n x0 x1 x2 x3 x4 x5 x6 x7 x8 x9 x10 x11 x12 x13 x14 x15:Int) (b:Bool) (p y:El) (f:Bool) (o:List Int) (c:Option Nat) (m w:Int) (A:Ea K n x0 x1 x2 x3 x4 x5 x6 x7 x8 x9 x10 x11 x12 x13 x14 x15 b p y w):aRun E (K + 1) 125 [.ptr (0,0,0) 0] [((0,0,0),bx (kc n x0 x1 x2 x3 x4 x5 x6 x7 x8 x9 x10 x11 x12 x13 x14 x15 b p f o c m))]=some (.ret (.tup [y.av,.int .i64 w]),[((0,0,0),bx (kc n x0 x1 x2 x3 x4 x5 x6 x7 x8 x9 x10 x11 x12 x13 x14 x15 b p f o c m)),((1,1,0),bx (ec y))]):=by
  rw [aRun_fn rfl E_fn125 rfl (Nat.le_of_ble_eq_true rfl),body_125,c125]
  unfold Ea at A; rw [El.av_eq y] at A ⊢
  simp [A,El.avs_pure]
theorem cloB (K:Nat) (n x0 x1 x2 x3 x4 x5 x6 x7 x8 x9 x10 x11 x12 x13 x14 x15:Int) (b:Bool) (p y:El) (f:Bool) (o:List Int) (c:Option Nat) (m w:Int) (A:Eb K f o c m y w):aRun E (K + 1) 126 [.ptr (0,0,0) 0] [((0,0,0),bx (kc n x0 x1 x2 x3 x4 x5 x6 x7 x8 x9 x10 x11 x12 x13 x14 x15 b p f o c m))]=some (.ret (.tup [y.av,.int .i64 w]),[((0,0,0),bx (kc n x0 x1 x2 x3 x4 x5 x6 x7 x8 x9 x10 x11 x12 x13 x14 x15 b p f o c m)),((1,1,0),bx (ec y))]):=by
  rw [aRun_fn rfl E_fn126 rfl (Nat.le_of_ble_eq_true rfl),body_126,c126]
  unfold Eb at A; rw [El.av_eq y] at A ⊢
  simp [A,El.avs_pure]
theorem tp_pure (y:El) (w:Int):(AV.tup [y.av,.int .i64 w]).pure=true:=by simp [AV.pure,AV.pureL,El.av_pure]
theorem bad1 (k:Nat) (hK:60 ≤ k) (n x0 x1 x2 x3 x4 x5 x6 x7 x8 x9 x10 x11 x12 x13 x14 x15:Int) (b:Bool) (p y:El) (f:Bool) (o:List Int) (c:Option Nat) (m w:Int) (hw:w ≠ 0) (A:Ea (k + 10) n x0 x1 x2 x3 x4 x5 x6 x7 x8 x9 x10 x11 x12 x13 x14 x15 b p y w):Con E (k + 12) 77 [kg n x0 x1 x2 x3 x4 x5 x6 x7 x8 x9 x10 x11 x12 x13 x14 x15 b p f o c m] (.tup [zel,.int .i64 w]):=by
  have oA:=fun slot h hk => K2.opc (slot:=slot) (h:=h) (key:=(1,1,0)) (kp n x0 x1 x2 x3 x4 x5 x6 x7 x8 x9 x10 x11 x12 x13 x14 x15 b p f o c m) (tp_pure y w) hk rfl (cloA (k + 10) n x0 x1 x2 x3 x4 x5 x6 x7 x8 x9 x10 x11 x12 x13 x14 x15 b p y f o c m w A)
  refine con_ofO E_fn77 (by simp [AV.pureL,AV.pure,El.avs_pure]) (Nat.le_of_ble_eq_true rfl) rfl (g:=[]) ?_
  rw [body_77,c77]
  rw [El.av_eq y] at oA
  simp [oA,hw,o_glob,El.avs_pure]
theorem bad2 (k:Nat) (hK:60 ≤ k) (n x0 x1 x2 x3 x4 x5 x6 x7 x8 x9 x10 x11 x12 x13 x14 x15:Int) (b:Bool) (p y z:El) (f:Bool) (o:List Int) (c:Option Nat) (m w:Int) (hw:w ≠ 0) (A:Ea (k + 10) n x0 x1 x2 x3 x4 x5 x6 x7 x8 x9 x10 x11 x12 x13 x14 x15 b p y 0) (B:Eb (k + 10) f o c m z w):Con E (k + 12) 77 [kg n x0 x1 x2 x3 x4 x5 x6 x7 x8 x9 x10 x11 x12 x13 x14 x15 b p f o c m] (.tup [zel,.int .i64 w]):=by
  have oA:=fun slot h hk => K2.opc (slot:=slot) (h:=h) (key:=(1,1,0)) (kp n x0 x1 x2 x3 x4 x5 x6 x7 x8 x9 x10 x11 x12 x13 x14 x15 b p f o c m) (tp_pure y 0) hk rfl (cloA (k + 10) n x0 x1 x2 x3 x4 x5 x6 x7 x8 x9 x10 x11 x12 x13 x14 x15 b p y f o c m 0 A)
  have oB:=fun slot h hk => K2.opc (slot:=slot) (h:=h) (key:=(1,1,0)) (kp n x0 x1 x2 x3 x4 x5 x6 x7 x8 x9 x10 x11 x12 x13 x14 x15 b p f o c m) (tp_pure z w) hk rfl (cloB (k + 10) n x0 x1 x2 x3 x4 x5 x6 x7 x8 x9 x10 x11 x12 x13 x14 x15 b p z f o c m w B)
  refine con_ofO E_fn77 (by simp [AV.pureL,AV.pure,El.avs_pure]) (Nat.le_of_ble_eq_true rfl) rfl (g:=[]) ?_
  rw [body_77,c77]
  rw [El.av_eq y] at oA
  rw [El.av_eq z] at oB
  simp [oA,oB,hw,o_glob,El.avs_pure]
theorem ok (k:Nat) (hK:60 ≤ k) (n x0 x1 x2 x3 x4 x5 x6 x7 x8 x9 x10 x11 x12 x13 x14 x15:Int) (b:Bool) (p y z:El) (f:Bool) (o:List Int) (c:Option Nat) (m:Int) (A:Ea (k + 10) n x0 x1 x2 x3 x4 x5 x6 x7 x8 x9 x10 x11 x12 x13 x14 x15 b p y 0) (B:Eb (k + 10) f o c m z 0):Con E (k + 12) 77 [kg n x0 x1 x2 x3 x4 x5 x6 x7 x8 x9 x10 x11 x12 x13 x14 x15 b p f o c m] (.tup [(tp [y,z] 2).av,.int .i64 0]):=by
  have oA:=fun slot h hk => K2.opc (slot:=slot) (h:=h) (key:=(1,1,0)) (kp n x0 x1 x2 x3 x4 x5 x6 x7 x8 x9 x10 x11 x12 x13 x14 x15 b p f o c m) (tp_pure y 0) hk rfl (cloA (k + 10) n x0 x1 x2 x3 x4 x5 x6 x7 x8 x9 x10 x11 x12 x13 x14 x15 b p y f o c m 0 A)
  have oB:=fun slot h hk => K2.opc (slot:=slot) (h:=h) (key:=(1,1,0)) (kp n x0 x1 x2 x3 x4 x5 x6 x7 x8 x9 x10 x11 x12 x13 x14 x15 b p f o c m) (tp_pure z 0) hk rfl (cloB (k + 10) n x0 x1 x2 x3 x4 x5 x6 x7 x8 x9 x10 x11 x12 x13 x14 x15 b p z f o c m 0 B)
  have cc:=fun f xs c hp => QC.clipE f xs c hp (k + 11) (by omega) 0
  refine con_ofO E_fn77 (by simp [AV.pureL,AV.pure,El.avs_pure]) (Nat.le_of_ble_eq_true rfl) rfl (g:=[]) ?_
  rw [body_77,c77]
  have e:(tp [y,z] 2).av=.agg [.int .u8 0,.bool true,.int .u32 16,.sl true [] (some 0),.sl false [y.av,z.av] (some 2)]:=rfl
  rw [e]
  rw [El.av_eq y] at oA ⊢
  rw [El.av_eq z] at oB ⊢
  simp [oA,oB,cc,o_glob,El.avs_pure,SG.sl_g,SG.sealG,SG.sealYG]
end K3
end
section
open Ab Go TabE Sp E34 F1 Rw F5 F6 F7 F8 F43 F47 AP A1 A2 A6 A7 K1 K3
namespace K4
abbrev Bk (K:Nat) (n x0 x1 x2 x3 x4 x5 x6 x7 x8 x9 x10 x11 x12 x13 x14 x15:Int) (b:Bool) (p:El) (f:Bool) (o:List Int) (c:Option Nat) (m:Int) (v:AV) (w:Int):Prop:=∀ h,aCall E K 0 77 [kg n x0 x1 x2 x3 x4 x5 x6 x7 x8 x9 x10 x11 x12 x13 x14 x15 b p f o c m] h=some (.ret (.tup [v,.int .i64 w]),h)
theorem run_bad (K:Nat) (hK:60 ≤ K) (n x0 x1 x2 x3 x4 x5 x6 x7 x8 x9 x10 x11 x12 x13 x14 x15:Int) (b:Bool) (p:El) (f:Bool) (o:List Int) (c:Option Nat) (m w:Int) (hw:w ≠ 0) (B:Bk K n x0 x1 x2 x3 x4 x5 x6 x7 x8 x9 x10 x11 x12 x13 x14 x15 b p f o c m zel w):∃ hf,aRun E (K + 1) 76 [kg n x0 x1 x2 x3 x4 x5 x6 x7 x8 x9 x10 x11 x12 x13 x14 x15 b p f o c m,.fn 77 [] []] []=some (.ret (.tup [zel,.int .i64 w]),hf):=by
  refine OFn.exm ?_
  rw [aRun_fn rfl E_fn76 rfl (Nat.le_of_ble_eq_true rfl),body_76,c76]
  unfold Bk at B
  simp [-s_round,B,hw,-Option.map_eq_some_iff]
theorem run_ok (K:Nat) (hK:60 ≤ K) (n x0 x1 x2 x3 x4 x5 x6 x7 x8 x9 x10 x11 x12 x13 x14 x15:Int) (b:Bool) (p y:El) (f:Bool) (o:List Int) (c:Option Nat) (m w:Int) (B:Bk K n x0 x1 x2 x3 x4 x5 x6 x7 x8 x9 x10 x11 x12 x13 x14 x15 b p f o c m y.av 0) (C:Ck K y w):∃ hf,aRun E (K + 1) 76 [kg n x0 x1 x2 x3 x4 x5 x6 x7 x8 x9 x10 x11 x12 x13 x14 x15 b p f o c m,.fn 77 [] []] []=some (.ret (.tup [if w=0 then y.av else zel,.int .i64 w]),hf):=by
  refine OFn.exm ?_
  rw [aRun_fn rfl E_fn76 rfl (Nat.le_of_ble_eq_true rfl),body_76,c76]
  unfold Bk at B; unfold Ck at C; rw [El.av_eq] at B C
  by_cases hw:w=0
  · rw [if_pos hw,El.av_eq]
    simp [-s_round,B,C,hw,-Option.map_eq_some_iff]
  · rw [if_neg hw]
    simp [-s_round,B,C,hw,-Option.map_eq_some_iff]
theorem elem_of (K:Nat) (hK:60 ≤ K) (n x0 x1 x2 x3 x4 x5 x6 x7 x8 x9 x10 x11 x12 x13 x14 x15:Int) (b:Bool) (p y:El) (f:Bool) (u:List Int) (c:Option Nat) (m w:Int) (o:∃ hf,aRun E K 76 [kg n x0 x1 x2 x3 x4 x5 x6 x7 x8 x9 x10 x11 x12 x13 x14 x15 b p f u c m,.fn 77 [] []] []=some (.ret (.tup [y.av,.int .i64 w]),hf)) :
    Con E (K + 1) 27 [kg n x0 x1 x2 x3 x4 x5 x6 x7 x8 x9 x10 x11 x12 x13 x14 x15 b p f u c m] (.tup [y.av,.int .i64 w]) ∧ Con E (K + 1) 28 [kg n x0 x1 x2 x3 x4 x5 x6 x7 x8 x9 x10 x11 x12 x13 x14 x15 b p f u c m] (.int .i64 w):=by
  obtain ⟨hf,e⟩:=o
  have o:=fun slot h => OFn.opened_fn (slot:=slot) (h:=h) e (by simp [AV.pure,AV.pureL,El.avs_pure]) (by simp [AV.pure,AV.pureL,El.av_pure])
  simp only [El.av_eq y] at o ⊢
  constructor
  · refine con_ofO E_fn27 (by simp [AV.pureL,AV.pure,El.avs_pure]) (Nat.le_of_ble_eq_true rfl) rfl (g:=[]) ?_
    rw [body_27,c27]
    simp [-s_round,o]
  · refine con_ofO E_fn28 (by simp [AV.pureL,AV.pure,El.avs_pure]) (Nat.le_of_ble_eq_true rfl) rfl (g:=[]) ?_
    rw [body_28,c28]
    simp [-s_round,o]
def kw (y z:El) (wa wb:Int):Int:=if wa ≠ 0 then wa else if wb ≠ 0 then wb else (chk (tp [y,z] 2).core 1 0 0).1
theorem key (n x0 x1 x2 x3 x4 x5 x6 x7 x8 x9 x10 x11 x12 x13 x14 x15:Int) (b:Bool) (p y z:El) (f:Bool) (u:List Int) (c:Option Nat) (m wa wb:Int) (A:∃ N,Con E N 19 [ag n x0 x1 x2 x3 x4 x5 x6 x7 x8 x9 x10 x11 x12 x13 x14 x15 b p] (.tup [y.av,.int .i64 wa])) (B:∃ N,Con E N 25 [.sl f (bs u) c,.int .i64 m] (.tup [z.av,.int .i64 wb])) (ho:(tp [y,z] 2).ok) :
    ∃ N,Con E N 27 [kg n x0 x1 x2 x3 x4 x5 x6 x7 x8 x9 x10 x11 x12 x13 x14 x15 b p f u c m] (.tup [(if kw y z wa wb=0 then tp [y,z] 2 else E32.z0).av,.int .i64 (kw y z wa wb)]) ∧ Con E N 28 [kg n x0 x1 x2 x3 x4 x5 x6 x7 x8 x9 x10 x11 x12 x13 x14 x15 b p f u c m] (.int .i64 (kw y z wa wb)):=by
  obtain ⟨N1,C1⟩:=A
  obtain ⟨N2,C2⟩:=B
  obtain ⟨N3,C3⟩:=E10.check _ ho
  obtain ⟨k,hk⟩:∃ k,N1 + N2 + N3 + 100=k:=⟨_,rfl⟩
  have A1:Ea (k + 10) n x0 x1 x2 x3 x4 x5 x6 x7 x8 x9 x10 x11 x12 x13 x14 x15 b p y wa:=fun h => C1 _ (by omega) 0 h
  have B1:Eb (k + 10) f u c m z wb:=fun h => C2 _ (by omega) 0 h
  refine ⟨k + 14,?_⟩
  by_cases h1:wa=0
  case neg =>
    have e:kw y z wa wb=wa:=by unfold kw; rw [if_pos h1]
    rw [e,if_neg h1]
    exact elem_of (k + 13) (by omega) n x0 x1 x2 x3 x4 x5 x6 x7 x8 x9 x10 x11 x12 x13 x14 x15 b p E32.z0 f u c m wa (run_bad (k + 12) (by omega) n x0 x1 x2 x3 x4 x5 x6 x7 x8 x9 x10 x11 x12 x13 x14 x15 b p f u c m wa h1 fun h => K3.bad1 k (by omega) n x0 x1 x2 x3 x4 x5 x6 x7 x8 x9 x10 x11 x12 x13 x14 x15 b p y f u c m wa h1 A1 (k + 12) (by omega) 0 h)
  subst h1
  by_cases h2:wb=0
  case neg =>
    have e:kw y z 0 wb=wb:=by unfold kw; rw [if_neg (by simp),if_pos h2]
    rw [e,if_neg h2]
    exact elem_of (k + 13) (by omega) n x0 x1 x2 x3 x4 x5 x6 x7 x8 x9 x10 x11 x12 x13 x14 x15 b p E32.z0 f u c m wb (run_bad (k + 12) (by omega) n x0 x1 x2 x3 x4 x5 x6 x7 x8 x9 x10 x11 x12 x13 x14 x15 b p f u c m wb h2 fun h => K3.bad2 k (by omega) n x0 x1 x2 x3 x4 x5 x6 x7 x8 x9 x10 x11 x12 x13 x14 x15 b p y z f u c m wb h2 A1 B1 (k + 12) (by omega) 0 h)
  subst h2
  have e:kw y z 0 0=(chk (tp [y,z] 2).core 1 0 0).1:=by unfold kw; rw [if_neg (by simp),if_neg (by simp)]
  rw [e]
  have r:=run_ok (k + 12) (by omega) n x0 x1 x2 x3 x4 x5 x6 x7 x8 x9 x10 x11 x12 x13 x14 x15 b p (tp [y,z] 2) f u c m (chk (tp [y,z] 2).core 1 0 0).1 (fun h => K3.ok k (by omega) n x0 x1 x2 x3 x4 x5 x6 x7 x8 x9 x10 x11 x12 x13 x14 x15 b p y z f u c m A1 B1 (k + 12) (by omega) 0 h) (fun h => C3 _ (by omega) 0 h)
  have e2:∀ w:Int,(if w=0 then (tp [y,z] 2).av else zel)=(if w=0 then tp [y,z] 2 else E32.z0).av:=fun w => by split <;> rfl
  rw [e2] at r
  exact elem_of (k + 13) (by omega) n x0 x1 x2 x3 x4 x5 x6 x7 x8 x9 x10 x11 x12 x13 x14 x15 b p _ f u c m _ r
end K4
end
end
section
open Ab Go
namespace OH
theorem run_len:∀ (bs ds:List Int) (v:Int) (s:Bool) (ds':List Int) (v':Int) (s':Bool),ds.length ≤ 15 → (s=false → ds.length < 15) → run bs ds v s=.inr (ds',v',s') → ds'.length ≤ 15 ∧ (s'=false → ds'.length < 15)
  | [],ds,v,s,ds',v',s',h1,h2,h => by
    simp only [run] at h
    cases h
    exact ⟨h1,h2⟩
  | b :: r,ds,v,s,ds',v',s',h1,h2,h => by
    unfold run step at h
    split at h
    case h_1 => cases h
    rename_i e1 ds1 v1 s1 e2
    split at e2
    · cases e2
    rename_i n1
    split at e2
    · cases e2
    split at e2
    · cases e2
    have hlt:ds.length < 15:=by
      cases s with
      | false => exact h2 rfl
      | true =>
        have:¬ ds.length=15:=fun q => n1 ⟨rfl,q⟩
        omega
    split at e2
    · cases e2
      exact run_len r _ _ _ ds' v' s' (by simp; omega) (fun q => by cases q) h
    · cases e2
      exact run_len r ds _ _ ds' v' s' h1 (fun _ => hlt) h
theorem arcs_len (ds:List Int) (h:ds.length ≤ 15):(arcs ds).length=16:=by
  cases ds with
  | nil => rfl
  | cons d r =>
    unfold arcs
    simp only [List.length_cons] at h
    simp
    omega
theorem get_len (bs:List Int):(get bs).2.1.length=16:=by
  unfold get
  split
  · rfl
  · split
    · rfl
    · rename_i ds v s hr
      split
      · exact arcs_len ds (run_len bs [] 0 true ds v s (by simp) (by simp) hr).1
      · rfl
end OH
namespace OH
theorem run_ne:∀ (bs ds:List Int) (v:Int) (s:Bool) (ds':List Int) (v':Int) (s':Bool),(ds ≠ [] ∨ s=false) → run bs ds v s=.inr (ds',v',s') → ds' ≠ [] ∨ s'=false
  | [],ds,v,s,ds',v',s',h1,h => by
    simp only [run] at h
    cases h
    exact h1
  | b :: r,ds,v,s,ds',v',s',h1,h => by
    unfold run step at h
    split at h
    case h_1 => cases h
    rename_i e1 ds1 v1 s1 e2
    split at e2
    · cases e2
    split at e2
    · cases e2
    split at e2
    · cases e2
    split at e2
    · cases e2
      exact run_ne r _ _ _ ds' v' s' (.inl (by simp)) h
    · cases e2
      exact run_ne r ds _ _ ds' v' s' (.inr rfl) h
theorem run_ne' (bs ds:List Int) (v:Int) (s:Bool) (ds':List Int) (v':Int) (s':Bool) (hb:bs ≠ []) (h:run bs ds v s=.inr (ds',v',s')):ds' ≠ [] ∨ s'=false:=by
  cases bs with
  | nil => exact absurd rfl hb
  | cons b r =>
    unfold run step at h
    split at h
    case h_1 => cases h
    rename_i e1 ds1 v1 s1 e2
    split at e2
    · cases e2
    split at e2
    · cases e2
    split at e2
    · cases e2
    split at e2
    · cases e2
      exact run_ne r _ _ _ ds' v' s' (.inl (by simp)) h
    · cases e2
      exact run_ne r ds _ _ ds' v' s' (.inr rfl) h
end OH
end
section
open Ab Go TabE Sp E40
namespace Q22
def b:Code:=lp c66 0
def u32s (l:List Int):List AV:=l.map (AV.int .u32)
theorem u32s_pure:∀ l:List Int,AV.pureL (u32s l)=true
  | [] => rfl
  | x :: r => by have:=u32s_pure r; simpa [u32s,AV.pureL,AV.pure] using this
theorem u32s_keys (l):AV.keysL (u32s l)=[]:=AV.keysL_pure _ (u32s_pure l)
abbrev zo:List AV:=[.int .u8 0,.int .u32 0,.int .u32 0,.int .u32 0,.int .u32 0,.int .u32 0,.int .u32 0,.int .u32 0,.int .u32 0,.int .u32 0,.int .u32 0,.int .u32 0,.int .u32 0,.int .u32 0,.int .u32 0,.int .u32 0,.int .u32 0]
def oc (ds:List Int):List AV:=u32s (0 :: (ds ++ List.replicate (15 - ds.length) 0))
theorem oc_keys (ds):AV.keysL (oc ds)=[]:=u32s_keys _
theorem oc_len (ds:List Int) (h:ds.length ≤ 15):(oc ds).length=16:=by unfold oc u32s; simp; omega
theorem oc_set (ds:List Int) (v:Int) (h:ds.length < 15):(oc ds).take (ds.length + 1) ++ AV.int .u32 v :: (oc ds).drop (ds.length + 1 + 1)=oc (ds ++ [v]):=by
  unfold oc u32s
  obtain ⟨m,hm⟩:∃ m,15 - ds.length=m + 1:=⟨14 - ds.length,by omega⟩
  have hm2:15 - (ds ++ [v]).length=m:=by simp; omega
  rw [hm,hm2,List.map_cons,List.take_succ_cons,List.drop_succ_cons,List.map_append,List.take_left' (by simp),← List.drop_drop,List.drop_left' (by simp),List.replicate_succ]
  simp
abbrev S (ds:List Int) (v:Int) (s:Bool) (f:Bool) (r:List Int) (c:Option Nat) (i:Nat):St:=⟨[(2,.ptr (1,2,0) 0),(4,.ptr (1,4,0) 0),(5,.int .u64 v),(6,.bool s),(14,.sl f (bs r) c),(15,.int .i64 (r.length:Int)),(16,.int .i64 (i:Int))],[((1,2,0),bx zo),((1,4,0),bx (.int .u8 ((ds.length:Int) + 1) :: oc ds))]⟩
theorem and127 (x:Int) (x0:0 ≤ x) (x1:x < 256):((BitVec.ofInt 8 x &&& 127#8).toNat:Int)=x % 128:=by
  have:∀ n:Fin 256,((BitVec.ofInt 8 (n.val:Int) &&& 127#8).toNat:Int)=(n.val:Int) % 128:=by decide +kernel
  obtain ⟨n,rfl⟩:=Int.eq_ofNat_of_zero_le x0
  exact this ⟨n,by omega⟩
theorem or7 (a y:Int) (a0:0 ≤ a) (a1:a ≤ 4294967295) (y0:0 ≤ y) (y1:y < 128):((BitVec.ofInt 64 (a * 128) ||| BitVec.ofInt 64 y).toNat:Int)=128 * a + y:=by
  obtain ⟨m,rfl⟩:=Int.eq_ofNat_of_zero_le a0
  obtain ⟨k,rfl⟩:=Int.eq_ofNat_of_zero_le y0
  have e1:BitVec.ofInt 64 ((m:Int) * 128)=BitVec.ofNat 64 (2 ^ 7 * m):=by
    rw [show ((m:Int) * 128)=((2 ^ 7 * m:Nat):Int) from by simp; omega]
    exact BitVec.ofInt_natCast ..
  have e2:BitVec.ofInt 64 (k:Int)=BitVec.ofNat 64 k:=BitVec.ofInt_natCast ..
  rw [e1,e2,BitVec.toNat_or,BitVec.toNat_ofNat,BitVec.toNat_ofNat,Nat.mod_eq_of_lt (by omega),Nat.mod_eq_of_lt (by omega),← Nat.two_pow_add_eq_or_of_lt (by omega)]
  omega
theorem g1 (x:Int) (x0:0 ≤ x) (x1:x < 256):intOp .and .u8 x 127=some (.int .u8 (x % 128)):=by
  show some (AV.int .u8 (IntKind.u8.wrap (((BitVec.ofInt 8 x &&& 127#8).toNat:Nat):Int)))=_
  rw [and127 x x0 x1]
  simp [w_u8]
  omega
theorem g2 (v y:Int) (v0:0 ≤ v) (v1:v ≤ 4294967295) (y0:0 ≤ y) (y1:y < 128):intOp .or .u64 (v * 128) y=some (.int .u64 (128 * v + y)):=by
  show some (AV.int .u64 (IntKind.u64.wrap (((BitVec.ofInt 64 (v * 128) ||| BitVec.ofInt 64 y).toNat:Nat):Int)))=_
  rw [or7 v y v0 v1 y0 y1]
  simp [w_u64]
  omega
abbrev Err (w:Int):Option (AExit × St):=some (.ret,⟨[(2,.ptr (1,2,0) 0),(3,.int .i64 w)],[((1,2,0),bx zo)]⟩)
theorem hi_ (q k1:Nat) (ds:List Int) (v:Int) (f:Bool) (c:Option Nat) (r:List Int) (x:Int) (i:Nat) (hx:r[i]? = some x) (hl:r.length ≤ 1000) (x0:0 ≤ x) (x1:x < 256) (v0:0 ≤ v) (v1:v ≤ 4294967295) (hd:ds.length ≤ 15) (s:Bool) (n1:s=true → ds.length < 15) (n2:s=true → ¬ x=128) (n3:¬ 4294967295 < 128 * v + x % 128) (n4:¬ x < 128) :
    rnd fn66 b q k1 (S ds v s f r c i)=some (.normal,S ds (128 * v + x % 128) false f r c (i + 1)):=by
  have hi:i < r.length:=(List.getElem?_eq_some_iff.1 hx).1
  have ix:=byte_at f c r i x hx
  have w:=w64' ((i:Int) + 1) (by omega) (by omega)
  have h1:=g1 x x0 x1
  have h2:=g2 v (x % 128) v0 v1 (by omega) (by omega)
  have h3:x % 128 % 18446744073709551616=x % 128:=by omega
  have h4:v * 128 % 18446744073709551616=v * 128:=by omega
  have h5:(128 * v + x % 128) % 18446744073709551616=128 * v + x % 128:=by omega
  have ok:=oc_keys ds
  cases s with
  | false => simp [b,lp,lps,c66,↓s_seq,↓s_reg,↓s_cond,↓s_block,↓s_cons,↓s_consG,s_nil,firstReg,s_gf,s_wb,s_val,s_rgx,s_sqn,s_cdb,s_bkn,s_skip',s_clean,o_tmp,o_int,o_bool,l_hit,l_miss,x_move,x_assign,x_pick,pk_f,x_bin,bn_s,x_conv,cvx,convA,binA,intOp,keepT,x_load,ldx,x_fieldAddr,x_indexAddr,iax,lookK,readC,conts,TyI.mk1,fieldAddrA,gcH,reach,keysT,keepK,inKs,AV.keys,AV.keysL,Ty.isAgg,w_u64,IntKind.bits,-intOp,ix,w,hi,h1,h2,h3,h4,n3,n4,ok]
  | true =>
    have m1:¬ (ds.length:Int) + 1=16:=by have:=n1 rfl; omega
    have m2:¬ x=128:=n2 rfl
    simp [b,lp,lps,c66,↓s_seq,↓s_reg,↓s_cond,↓s_block,↓s_cons,↓s_consG,s_nil,firstReg,s_gt,s_wb,s_val,s_rgx,s_sqn,s_cdb,s_bkn,s_skip',s_clean,o_tmp,o_int,l_hit,l_miss,x_move,x_assign,x_pick,pk_t,x_bin,bn_s,x_conv,cvx,convA,binA,intOp,keepT,x_load,ldx,x_fieldAddr,x_indexAddr,iax,lookK,readC,conts,TyI.mk1,fieldAddrA,gcH,reach,keysT,keepK,inKs,AV.keys,AV.keysL,Ty.isAgg,w_u64,IntKind.bits,i_beq,-intOp,ix,w,hi,h1,h2,h3,h4,n3,n4,ok,m1,m2]
theorem low (q k1:Nat) (ds:List Int) (v:Int) (f:Bool) (c:Option Nat) (r:List Int) (x:Int) (i:Nat) (hx:r[i]? = some x) (hl:r.length ≤ 1000) (x0:0 ≤ x) (x1:x < 256) (v0:0 ≤ v) (v1:v ≤ 4294967295) (hd:ds.length ≤ 15) (s:Bool) (n1:s=true → ds.length < 15) (n1':ds.length < 15) (n2:s=true → ¬ x=128) (n3:¬ 4294967295 < 128 * v + x % 128) (n4:x < 128) :
    rnd fn66 b q k1 (S ds v s f r c i)=some (.normal,S (ds ++ [128 * v + x % 128]) 0 true f r c (i + 1)):=by
  have hi:i < r.length:=(List.getElem?_eq_some_iff.1 hx).1
  have ix:=byte_at f c r i x hx
  have w:=w64' ((i:Int) + 1) (by omega) (by omega)
  have h1:=g1 x x0 x1
  have h2:=g2 v (x % 128) v0 v1 (by omega) (by omega)
  have h3:x % 128 % 18446744073709551616=x % 128:=by omega
  have h4:v * 128 % 18446744073709551616=v * 128:=by omega
  have h5:(128 * v + x % 128) % 18446744073709551616=128 * v + x % 128:=by omega
  have h6:(128 * v + x % 128) % 4294967296=128 * v + x % 128:=by omega
  have h7:((ds.length:Int) + 1 + 1) % 256=(ds.length:Int) + 1 + 1:=by omega
  have ok:=oc_keys ds
  have ok2:=oc_keys (ds ++ [128 * v + x % 128])
  have ol:=oc_len ds hd
  have os:=oc_set ds (128 * v + x % 128) n1'
  have ia:∀ h,indexAddrA E 33 (.ptr (1,4,0) 1) (.int .u8 ((ds.length:Int) + 1)) h=some (.ptr (1,4,0) (ds.length + 1 + 1)):=fun h => by
    have e:(ds.length:Int) + 1 < 16:=by omega
    have e2:0 ≤ (ds.length:Int) + 1:=by omega
    have e3:((ds.length:Int) + 1).toNat=ds.length + 1:=by omega
    simp [indexAddrA,E_ty33,E_ty23,e,e2,e3]
    omega
  have l1:ds.length + 1 < 16:=by omega
  have l2:ds.length + 1 ≤ 16:=by omega
  have l3:ds.length ≤ 14:=by omega
  have l4:ds.length < 15:=by omega
  cases s with
  | false => simp [b,lp,lps,c66,↓s_seq,↓s_reg,↓s_cond,↓s_block,↓s_cons,↓s_consG,s_nil,firstReg,s_gf,s_wb,s_val,s_skip,s_rgx,s_sqn,s_cdb,s_bkn,s_skip',s_clean,o_tmp,o_int,o_bool,l_hit,l_miss,x_move,x_assign,x_pick,pk_f,x_bin,bn_s,x_conv,cvx,convA,binA,intOp,keepT,x_load,ldx,x_store,stx,x_fieldAddr,x_indexAddr,iax,setK,lookK,writeL,writeC,readC,conts,TyI.mk1,fieldAddrA,AV.cells,gcH,reach,keysT,keepK,inKs,AV.keys,AV.keysL,Ty.isAgg,w_u8,w_u32,w_u64,IntKind.bits,sc_int,-intOp,ix,ia,w,hi,h1,h2,h3,h4,h6,h7,n3,n4,ok,ok2,ol,os,l3]
  | true =>
    have m1:¬ (ds.length:Int) + 1=16:=by have:=n1 rfl; omega
    have m2:¬ x=128:=n2 rfl
    simp [b,lp,lps,c66,↓s_seq,↓s_reg,↓s_cond,↓s_block,↓s_cons,↓s_consG,s_nil,firstReg,s_gt,s_wb,s_val,s_skip,s_rgx,s_sqn,s_cdb,s_bkn,s_skip',s_clean,o_tmp,o_int,l_hit,l_miss,x_move,x_assign,x_pick,pk_t,x_bin,bn_s,x_conv,cvx,convA,binA,intOp,keepT,x_load,ldx,x_store,stx,x_fieldAddr,x_indexAddr,iax,setK,lookK,writeL,writeC,readC,conts,TyI.mk1,fieldAddrA,AV.cells,gcH,reach,keysT,keepK,inKs,AV.keys,AV.keysL,Ty.isAgg,w_u8,w_u32,w_u64,IntKind.bits,sc_int,i_beq,-intOp,ix,ia,w,hi,h1,h2,h3,h4,h6,h7,n3,n4,ok,ok2,ol,os,m1,m2,l3]
theorem e1 (q k1:Nat) (ds:List Int) (v:Int) (f:Bool) (c:Option Nat) (r:List Int) (x:Int) (i:Nat) (hx:r[i]? = some x) (hl:r.length ≤ 1000) (x0:0 ≤ x) (x1:x < 256) (v0:0 ≤ v) (v1:v ≤ 4294967295) (hd:ds.length ≤ 15) (n1:ds.length=15):rnd fn66 b q k1 (S ds v true f r c i)=Err 3:=by
  have hi:i < r.length:=(List.getElem?_eq_some_iff.1 hx).1
  have ix:=byte_at f c r i x hx
  have ok:=oc_keys ds
  simp [b,lp,lps,c66,↓s_seq,↓s_reg,↓s_cond,↓s_block,↓s_cons,↓s_consG,s_nil,firstReg,s_gt,s_wb,s_val,s_skip,s_rgx,s_sqn,s_sqr,s_cdb,s_bkr,s_ret',s_skip',s_clean,o_tmp,o_int,l_hit,l_miss,ol_nil,x_move,x_assign,x_pick,pk_t,x_bin,bn_s,binA,intOp,keepT,x_build,bdx,x_load,ldx,x_store,stx,x_fieldAddr,x_indexAddr,iax,setK,lookK,fillA,writeL,writeC,readC,TyI.mk1,fieldAddrA,AV.cells,gcH,reach,keysT,keepK,inKs,AV.keys,AV.keysL,Ty.isAgg,sc_int,ix,hi,ok,n1]
theorem e2 (q k1:Nat) (ds:List Int) (v:Int) (f:Bool) (c:Option Nat) (r:List Int) (x:Int) (i:Nat) (hx:r[i]? = some x) (hl:r.length ≤ 1000) (x0:0 ≤ x) (x1:x < 256) (v0:0 ≤ v) (v1:v ≤ 4294967295) (hd:ds.length ≤ 15) (n1:ds.length < 15) (n2:x=128):rnd fn66 b q k1 (S ds v true f r c i)=Err 11:=by
  subst n2
  have hi:i < r.length:=(List.getElem?_eq_some_iff.1 hx).1
  have ix:=byte_at f c r i 128 hx
  have ok:=oc_keys ds
  have m1:¬ (ds.length:Int) + 1=16:=by omega
  simp [b,lp,lps,c66,↓s_seq,↓s_reg,↓s_cond,↓s_block,↓s_cons,↓s_consG,s_nil,firstReg,s_gt,s_wb,s_val,s_skip,s_rgx,s_sqn,s_sqr,s_cdb,s_bkr,s_ret',s_skip',s_clean,o_tmp,o_int,l_hit,l_miss,ol_nil,x_move,x_assign,x_pick,pk_t,x_bin,bn_s,binA,intOp,keepT,x_build,bdx,x_load,ldx,x_store,stx,x_fieldAddr,x_indexAddr,iax,setK,lookK,fillA,writeL,writeC,readC,TyI.mk1,fieldAddrA,AV.cells,gcH,reach,keysT,keepK,inKs,AV.keys,AV.keysL,Ty.isAgg,sc_int,i_beq,ix,hi,ok,m1]
theorem e3 (q k1:Nat) (ds:List Int) (v:Int) (f:Bool) (c:Option Nat) (r:List Int) (x:Int) (i:Nat) (hx:r[i]? = some x) (hl:r.length ≤ 1000) (x0:0 ≤ x) (x1:x < 256) (v0:0 ≤ v) (v1:v ≤ 4294967295) (hd:ds.length ≤ 15) (s:Bool) (n1:s=true → ds.length < 15) (n2:s=true → ¬ x=128) (n3:4294967295 < 128 * v + x % 128):rnd fn66 b q k1 (S ds v s f r c i)=Err 3:=by
  have hi:i < r.length:=(List.getElem?_eq_some_iff.1 hx).1
  have ix:=byte_at f c r i x hx
  have h1:=g1 x x0 x1
  have h2:=g2 v (x % 128) v0 v1 (by omega) (by omega)
  have h3:x % 128 % 18446744073709551616=x % 128:=by omega
  have h4:v * 128 % 18446744073709551616=v * 128:=by omega
  have h5:(128 * v + x % 128) % 18446744073709551616=128 * v + x % 128:=by omega
  have ok:=oc_keys ds
  cases s with
  | false => simp [b,lp,lps,c66,↓s_seq,↓s_reg,↓s_cond,↓s_block,↓s_cons,↓s_consG,s_nil,firstReg,s_gf,s_wb,s_val,s_skip,s_rgx,s_sqn,s_sqr,s_cdb,s_bkn,s_bkr,s_ret',s_skip',s_clean,o_tmp,o_int,o_bool,l_hit,l_miss,ol_nil,x_move,x_assign,x_pick,pk_f,x_bin,bn_s,x_conv,cvx,convA,binA,intOp,keepT,x_build,bdx,x_load,ldx,x_store,stx,x_fieldAddr,x_indexAddr,iax,setK,lookK,fillA,writeL,writeC,readC,conts,TyI.mk1,fieldAddrA,AV.cells,gcH,reach,keysT,keepK,inKs,AV.keys,AV.keysL,Ty.isAgg,w_u64,IntKind.bits,sc_int,-intOp,ix,hi,h1,h2,h3,h4,n3,ok]
  | true =>
    have m1:¬ (ds.length:Int) + 1=16:=by have:=n1 rfl; omega
    have m2:¬ x=128:=n2 rfl
    simp [b,lp,lps,c66,↓s_seq,↓s_reg,↓s_cond,↓s_block,↓s_cons,↓s_consG,s_nil,firstReg,s_gt,s_wb,s_val,s_skip,s_rgx,s_sqn,s_sqr,s_cdb,s_bkn,s_bkr,s_ret',s_skip',s_clean,o_tmp,o_int,l_hit,l_miss,ol_nil,x_move,x_assign,x_pick,pk_t,x_bin,bn_s,x_conv,cvx,convA,binA,intOp,keepT,x_build,bdx,x_load,ldx,x_store,stx,x_fieldAddr,x_indexAddr,iax,setK,lookK,fillA,writeL,writeC,readC,conts,TyI.mk1,fieldAddrA,AV.cells,gcH,reach,keysT,keepK,inKs,AV.keys,AV.keysL,Ty.isAgg,w_u64,IntKind.bits,sc_int,i_beq,-intOp,ix,hi,h1,h2,h3,h4,n3,ok,m1,m2]
abbrev Out (ds:List Int) (v:Int) (s:Bool) (f:Bool) (r:List Int) (c:Option Nat):AExit × St:=(.exit 0,⟨(S ds v s f r c r.length).t ++ [(17,.bool false)],(S ds v s f r c r.length).h⟩)
theorem last (q k1:Nat) (ds:List Int) (v:Int) (s:Bool) (f r c):rnd fn66 b q k1 (S ds v s f r c r.length)=some (Out ds v s f r c):=by
  have ok:=oc_keys ds
  simp [b,lp,lps,c66,↓s_seq,↓s_reg,↓s_cond,↓s_cons,s_nil,firstReg,s_val,s_rgx,s_sqn,s_sqe,s_cdb,s_exit,s_clean,o_tmp,l_hit,l_miss,x_bin,bn_s,binA,intOp,keepT,lookK,gcH,reach,keysT,keepK,inKs,AV.keys,AV.keysL,ok]
abbrev Lp (K:Nat):=aLoop (aCode E (aCall E K) (dcall (aRun E K)) K 1 fn66 b) (cleanS 1 ((firstReg b).bind fn66.head))
def En (f:Bool) (r:List Int) (c:Option Nat):Int ⊕ (List Int × Int × Bool) → AExit × St
  | .inl e => (.ret,⟨[(2,.ptr (1,2,0) 0),(3,.int .i64 e)],[((1,2,0),bx zo)]⟩)
  | .inr (ds,v,s) => Out ds v s f r c
theorem loop (K:Nat) (f:Bool) (r:List Int) (c:Option Nat) (hb:∀ y ∈ r,0 ≤ y ∧ y < 256) (hl:r.length ≤ 1000):∀ (t ds:List Int) (v:Int) (s:Bool) (i k:Nat),r.drop i=t → i ≤ r.length → ds.length ≤ 15 → (s=false → ds.length < 15) → 0 ≤ v → v ≤ 4294967295 → t.length < k →
    Lp K k (S ds v s f r c i)=some (En f r c (OH.run t ds v s))
  | [],ds,v,s,i,k,h1,hi,hd,hd2,v0,v1,hk => by
    obtain ⟨k,rfl⟩:∃ j,k=j + 1:=⟨k - 1,by omega⟩
    have q:=congrArg List.length h1
    rw [List.length_drop,List.length_nil] at q
    obtain rfl:i=r.length:=by omega
    exact aLoop_end (last K K ds v s f r c) (fun h => by cases h)
  | x :: t,ds,v,s,i,k,h1,hi,hd,hd2,v0,v1,hk => by
    obtain ⟨k,rfl⟩:∃ j,k=j + 1:=⟨k - 1,by omega⟩
    have hx:r[i]? = some x:=by
      have:=congrArg (fun l => l[0]?) h1
      simpa [List.getElem?_drop] using this
    have ht:r.drop (i + 1)=t:=by
      have:=congrArg List.tail h1
      simpa [List.tail_drop] using this
    have q:=congrArg List.length h1
    rw [List.length_drop,List.length_cons] at q
    obtain ⟨x0,x1⟩:=hb x (List.mem_of_getElem? hx)
    unfold OH.run OH.step
    by_cases c1:s=true ∧ ds.length=15
    · rw [if_pos c1]
      obtain ⟨rfl,c1⟩:=c1
      exact aLoop_end (e1 K K ds v f c r x i hx hl x0 x1 v0 v1 hd c1) (fun h => by cases h)
    rw [if_neg c1]
    have n1:s=true → ds.length < 15:=fun h => by
      have:¬ ds.length=15:=fun q => c1 ⟨h,q⟩
      omega
    by_cases c2:s=true ∧ x=128
    · rw [if_pos c2]
      obtain ⟨rfl,c2⟩:=c2
      exact aLoop_end (e2 K K ds v f c r x i hx hl x0 x1 v0 v1 hd (n1 rfl) c2) (fun h => by cases h)
    rw [if_neg c2]
    have n2:s=true → ¬ x=128:=fun h q => c2 ⟨h,q⟩
    have hlt:ds.length < 15:=by
      cases s with
      | false => exact hd2 rfl
      | true => exact n1 rfl
    by_cases c3:4294967295 < 128 * v + x % 128
    · rw [if_pos c3]
      exact aLoop_end (e3 K K ds v f c r x i hx hl x0 x1 v0 v1 hd s n1 n2 c3) (fun h => by cases h)
    rw [if_neg c3]
    unfold Lp
    by_cases c4:x < 128
    · rw [if_pos c4,aLoop_succ (low K K ds v f c r x i hx hl x0 x1 v0 v1 hd s n1 hlt n2 c3 c4)]
      exact loop K f r c hb hl t _ 0 true (i + 1) k ht (by omega) (by simp; omega) (fun h => by cases h) (by omega) (by omega) (by simp at hk; omega)
    · rw [if_neg c4,aLoop_succ (hi_ K K ds v f c r x i hx hl x0 x1 v0 v1 hd s n1 n2 c3 c4)]
      exact loop K f r c hb hl t ds _ false (i + 1) k ht (by omega) hd (fun _ => hlt) (by omega) (by omega) (by simp at hk; omega)
theorem get (f:Bool) (c:Option Nat) (r:List Int) (hb:∀ y ∈ r,0 ≤ y ∧ y < 256) (hl:r.length ≤ 1000):∃ N,Con E N 66 [.sl f (bs r) c] (.tup [.agg (.int .u8 (OH.get r).1 :: u32s (OH.get r).2.1),.int .i64 (OH.get r).2.2]):=by
  by_cases h0:r=[]
  · subst h0
    refine ⟨21,con_of E_fn66 (by simp [AV.pureL,AV.pure]) (Nat.le_of_ble_eq_true rfl) rfl rfl (g:=[]) ?_⟩
    rw [body_66,c66]
    simp [↓s_seq,↓s_reg,↓s_cond,↓s_cons,s_nil,s_val,s_skip,s_rgx,s_sqn,s_sqr,s_cdb,s_ret',s_finr,s_fin1,s_fix,s_clean,o_tmp,o_int,l_hit,l_miss,ol_nil,ol_cons,ol_some,x_move,x_assign,x_bin,bn_s,x_callB,frame0,binA,intOp,resL,resA,results1,AV.pure,AV.pureL,keepT,x_alloc,x_build,bdx,x_store,stx,newK,genOf,setK,lookK,fillA,writeL,writeC,readC,conts,TyI.mk1,appendA,copyA,builtinA,AV.cells,gcH,reach,keysT,keepK,inKs,AV.keys,AV.keysL,Ty.isAgg,sc_int,sl_tup,bs_nil,OH.get,u32s]
  obtain ⟨K,hK⟩:∃ K,r.length + 20=K:=⟨_,rfl⟩
  have L:=loop K f r c hb hl r [] 0 true 0 K rfl (by omega) (by simp) (by simp) (by omega) (by omega) (by omega)
  refine ⟨K + 1,con_of E_fn66 (by simp [AV.pureL,AV.pure]) (Nat.le_of_ble_eq_true rfl) rfl rfl (g:=[]) ?_⟩
  have rp:¬ (r.length:Int)=0:=by have:=List.length_pos_iff.2 h0; omega
  rw [body_66,c66]
  unfold OH.get
  rw [if_neg h0]
  cases hr:OH.run r [] 0 true with
  | inl e =>
    rw [hr] at L
    simp [Lp,b,lp,lps,c66,firstReg,S,bx,oc,u32s,En] at L
    simp [↓s_seq,↓s_reg,↓s_cond,↓s_block,↓s_cons,s_nil,s_loop,firstReg,s_val,s_skip,s_rgx,s_sqn,s_sqr,s_cdb,s_bkr,s_skip',s_finr,s_fin1,s_fix,s_clean,o_tmp,o_int,o_bool,l_hit,l_miss,ol_nil,ol_cons,ol_some,x_move,x_assign,x_bin,bn_s,x_callB,frame0,binA,intOp,resL,resA,results1,AV.pure,AV.pureL,keepT,x_alloc,x_build,bdx,x_store,stx,newK,genOf,setK,lookK,fillA,writeL,writeC,readC,conts,TyI.mk1,appendA,copyA,builtinA,AV.cells,gcH,reach,keysT,keepK,inKs,AV.keys,AV.keysL,Ty.isAgg,sc_int,bs_length,sl_tup,i_beq,L,h0,u32s]
  | inr z =>
    obtain ⟨ds,v,s⟩:=z
    have dl:=OH.run_len r [] 0 true ds v s (by simp) (by simp) hr
    rw [hr] at L
    have ok:=oc_keys ds
    have e0:oc []=[.int .u32 0,.int .u32 0,.int .u32 0,.int .u32 0,.int .u32 0,.int .u32 0,.int .u32 0,.int .u32 0,.int .u32 0,.int .u32 0,.int .u32 0,.int .u32 0,.int .u32 0,.int .u32 0,.int .u32 0,.int .u32 0]:=rfl
    simp only
    cases s with
    | false =>
      simp [Lp,b,lp,lps,c66,firstReg,S,bx,e0,En,Out] at L
      simp [↓s_seq,↓s_reg,↓s_cond,↓s_block,↓s_cons,s_nil,s_loop,firstReg,s_val,s_skip,s_rgx,s_sqn,s_sqr,s_cdb,s_bke,s_ret',s_skip',s_finr,s_fin1,s_fix,s_clean,o_tmp,o_int,o_bool,l_hit,l_miss,ol_nil,ol_cons,ol_some,x_move,x_assign,x_bin,bn_s,x_un,x_callB,frame0,binA,intOp,resL,resA,results1,AV.pure,AV.pureL,keepT,x_alloc,x_build,bdx,x_store,stx,newK,genOf,setK,lookK,fillA,writeL,writeC,readC,conts,TyI.mk1,appendA,copyA,builtinA,AV.cells,gcH,reach,keysT,keepK,inKs,AV.keys,AV.keysL,Ty.isAgg,unA,sc_int,bs_length,sl_tup,i_beq,L,h0,u32s,ok]
    | true =>
      rw [if_pos rfl]
      cases ds with
      | nil =>
        exact absurd (OH.run_ne' r [] 0 true [] v true h0 hr) (by simp)
      | cons d ds =>
        obtain ⟨p',_,_,q3,_⟩:=OH.run_ok r [] 0 true [] (d :: ds) v true hb (by simp) (by simp) (by simp) (by simp) (by simp) rfl (by simp) hr
        obtain ⟨d0,d1⟩:=q3 d (by simp)
        have e2:u32s (OH.arcs (d :: ds))=.int .u32 (min (d / 40) 2) :: .int .u32 (d - 40 * min (d / 40) 2) :: u32s (ds ++ List.replicate (14 - ds.length) 0):=rfl
        have e:oc (d :: ds)=.int .u32 0 :: .int .u32 d :: u32s (ds ++ List.replicate (14 - ds.length) 0):=by
          show _ :: _ :: u32s (ds ++ List.replicate (15 - (ds.length + 1)) 0)=_
          rw [show 15 - (ds.length + 1)=14 - ds.length from by omega]
        have k2:=u32s_keys (ds ++ List.replicate (14 - ds.length) 0)
        have k3:=u32s_pure (ds ++ List.replicate (14 - ds.length) 0)
        have k4:(u32s (ds ++ List.replicate (14 - ds.length) 0)).length=14:=by
          have:=dl.1
          simp at this
          unfold u32s
          simp
          omega
        have k5:(u32s (ds ++ List.replicate (14 - ds.length) 0)).take 14=u32s (ds ++ List.replicate (14 - ds.length) 0):=List.take_of_length_le (by omega)
        have k6:∀ x ∈ u32s (ds ++ List.replicate (14 - ds.length) 0),x.scal=true:=fun x hx => by
          obtain ⟨z,_,rfl⟩:=List.mem_map.1 hx
          rfl
        have q3:(if 2 < d / 40 then (2:Int) else d / 40)=min (d / 40) 2:=by split <;> omega
        have q4:(d - 40 * min (d / 40) 2) % 4294967296=d - 40 * min (d / 40) 2:=by omega
        obtain ⟨m,hm⟩:∃ m,min (d / 40) 2=m:=⟨_,rfl⟩
        rw [hm] at e2 q3 q4
        obtain ⟨rs,hrs⟩:∃ rs,u32s (ds ++ List.replicate (14 - ds.length) 0)=rs:=⟨_,rfl⟩
        rw [hrs] at e e2 k2 k3 k4 k5 k6
        rw [e2]
        have q1:d.tdiv 40=d / 40:=Int.tdiv_eq_ediv_of_nonneg d0
        have q2:d / 40 % 4294967296=d / 40:=by omega
        simp [Lp,b,lp,lps,c66,firstReg,S,bx,En,Out,e,e0] at L
        simp [↓s_seq,↓s_reg,↓s_cond,↓s_block,↓s_cons,s_nil,s_loop,firstReg,s_val,s_skip,s_rgx,s_sqn,s_cdb,s_bke,s_skip',s_clean,o_tmp,o_int,o_bool,l_hit,l_miss,ol_nil,ol_cons,ol_some,x_move,x_assign,x_bin,bn_s,x_un,x_callB,frame0,binA,intOp,keepT,x_alloc,x_build,bdx,x_load,ldx,x_store,stx,x_fieldAddr,x_indexAddr,iax,newK,genOf,setK,lookK,fillA,writeL,writeC,readC,conts,TyI.mk1,indexAddrA,fieldAddrA,appendA,copyA,builtinA,AV.cells,gcH,reach,keysT,keepK,inKs,AV.keys,AV.keysL,Ty.isAgg,w_u32,unA,sc_int,bs_length,i_beq,L,h0,k2,k4,k5,q1,q2,q3,q4]
        rw [if_pos k6]
        simp [↓s_cons,s_nil,s_val,s_skip,s_rgx,s_sqn,s_ret',s_finr,s_fin1,s_fix,s_clean,o_int,l_hit,l_miss,x_assign,resL,resA,results1,AV.pure,AV.pureL,keepT,lookK,readC,TyI.mk1,gcH,reach,keysT,keepK,inKs,AV.keys,AV.keysL,Ty.isAgg,sl_tup,k2,k3,k4,k5]
end Q22
end
section
open Ab Go TabE
attribute [local simp ↓] s_seq s_reg s_regd s_cond s_block s_cons s_consG s_regD
attribute [local simp] s_nil s_loop s_round s_lpn s_lpe s_lpr firstReg s_gt s_gf s_wb s_wu s_val s_valN s_skip s_calls s_callP s_cax lookR flatR pureKs s_ret s_rgx s_sqn s_sqr s_sqe s_cdb s_bkn s_bkr s_bke s_exit s_ret' s_skip' s_finr s_finn s_fin1 s_fix s_clean s_gc0 o_tmp o_int o_bool o_nil o_str o_fn o_nil' l_hit l_miss l_nil ol_nil ol_cons ol_some x_move x_assign x_pick pk_t pk_f x_bin bn_s x_un x_extract x_callF cl_no x_callB x_callBF frzV x_conv cvx convA frame0 binA intOp resL resA results1 sealLW AV.pure AV.pureL keepT x_alloc x_box bxx x_build bdx x_buildSlice bsx x_buildSliceF bsf x_load ldx x_store stx x_slice slx x_fieldAddr x_field x_index ixx x_indexAddr iax x_makeSlice msx x_makeSliceF msf x_nilCheck newK genOf setK lookK fillA writeL writeC readC conts TyI.mk1 sliceA boundsA boundsB fitsA numA indexAddrA fieldAddrA partA fieldA indexA appendA copyA builtinA AV.cells chunk gcH reach keysT keepK inKs AV.keys AV.keysL Ty.isAgg eq1 eqL convA.go ltI w_u8 w_u32 w_u64 w_i64 w_fdiv w_tdiv w_tmod IntKind.bits unA sc_int sc_bool sc_str sc_sl sc_ref sc_ptr sc_pel sc_nilp sc_fn sc_nilf sc_if sc_nili sc_agg sc_tup sc_mem bs_pure bs_kl bs_length bs_cells bs_all sl_row sealRow sealY sl_int sl_bool sl_str sl_sl sl_nilp sl_nilf sl_nili sl_pel sl_agg sl_tup sl_fn sl_if nat_1 bs_cons bs_nil i_beq i_bne x_mkF x_mkI x_tassert x_panic s_pan s_sqp s_bkp s_finp s_fixp s_lpp s_rgp s_retp s_site s_stxN s_stxO x_callT clx El.avs_len s_dyn0 s_rgy barOf dynChk footL dynOK disjK keysOp opVals Op.operands
section
open Ab Go TabE Sp E34 F1 Rw F5 F6 F7 F8 F43 F47 AP A1 A2 A3 A6 A7
namespace A4
theorem same (K:Nat) (hK:60 ≤ K) (n x0 x1 x2 x3 x4 x5 x6 x7 x8 x9 x10 x11 x12 x13 x14 x15:Int) (b:Bool) (p q:El) (w:Int) (S:∀ h,aCall E K 0 20 [p.av,q.av] h=some (.ret (.int .i64 w),h)):Con E (K + 1) 18 [ag n x0 x1 x2 x3 x4 x5 x6 x7 x8 x9 x10 x11 x12 x13 x14 x15 b p,ag n x0 x1 x2 x3 x4 x5 x6 x7 x8 x9 x10 x11 x12 x13 x14 x15 b q] (.int .i64 w):=by
  refine con_of E_fn18 (by simp [AV.pureL,AV.pure,El.avs_pure]) (Nat.le_of_ble_eq_true rfl) rfl rfl (g:=[]) ?_
  rw [body_18,c18]
  rw [El.av_eq p,El.av_eq q] at S
  simp [S,fitZ]
abbrev z:El:=E32.z0
structure Told (e:El) (n x0 x1 x2 x3 x4 x5 x6 x7 x8 x9 x10 x11 x12 x13 x14 x15:Int) (b:Bool) (p p':El) (q:List Int) (w:Int):Prop where
  of:∃ N,Con E N 15 [e.av] (.tup [ag n x0 x1 x2 x3 x4 x5 x6 x7 x8 x9 x10 x11 x12 x13 x14 x15 b p,fF q w])
  told:∃ N,Con E N 16 [e.av] (.tup [ag n x0 x1 x2 x3 x4 x5 x6 x7 x8 x9 x10 x11 x12 x13 x14 x15 b p',fR q w])
  pok:p.ok
  core:p.core=p'.core
  path:q.length ≤ 1
  good:w=0 → q=[] ∧ 0 ≤ n ∧ n < 256 ∧ (∀ x ∈ [x0,x1,x2,x3,x4,x5,x6,x7,x8,x9,x10,x11,x12,x13,x14,x15],0 ≤ x ∧ x < 4294967296) ∧ OP.okB n [x0,x1,x2,x3,x4,x5,x6,x7,x8,x9,x10,x11,x12,x13,x14,x15]=true ∧ (b=false → p=z) ∧ (bld n [x0,x1,x2,x3,x4,x5,x6,x7,x8,x9,x10,x11,x12,x13,x14,x15] b p).ok ∧ (bld n [x0,x1,x2,x3,x4,x5,x6,x7,x8,x9,x10,x11,x12,x13,x14,x15] b p).core=e.core ∧ Wd p ∧ E31.Nn p ∧ E33.Sh p ∧ (chk e.core 1 0 0).1=0
  bad:w ≠ 0 → n=0 ∧ b=false ∧ p=z ∧ p'=z ∧ [x0,x1,x2,x3,x4,x5,x6,x7,x8,x9,x10,x11,x12,x13,x14,x15]=List.replicate 16 0
theorem z_ok:z.ok:=by rw [El.ok_eq]; exact ⟨by simp [z,E32.z0,El.c],by simp [z,E32.z0,El.n],by simp [z,E32.z0,El.b,isB],by simp [z,E32.z0,El.b],by simp [z,E32.z0,El.s],fun y hy => by simp [z,E32.z0,El.s] at hy⟩
theorem cl_wd:∀ e:El,Wd e → Wd (clo e):=by
  refine El.ind fun e ih h => ?_
  obtain ⟨_,h1,h2⟩:=h
  rw [cl_eq]
  refine .mk _ (by simp only [El.s,List.length_map]; exact h1) fun x hx => ?_
  simp only [El.s] at hx
  obtain ⟨y,hy,rfl⟩:=List.mem_map.1 hx
  exact ih y hy (h2 y hy)
theorem cl_nn:∀ e:El,E31.Nn e → E31.Nn (clo e):=by
  refine El.ind fun e ih h => ?_
  obtain ⟨_,h1,h2,h3⟩:=h
  rw [cl_eq]
  refine .mk _ (by simpa only [El.fb,El.b] using h1) (by simp [El.fs]) fun x hx => ?_
  simp only [El.s] at hx
  obtain ⟨y,hy,rfl⟩:=List.mem_map.1 hx
  exact ih y hy (h3 y hy)
theorem cl_sh:∀ e:El,E33.Sh e → E33.Sh (clo e):=by
  refine El.ind fun e ih h => ?_
  obtain ⟨_,h1,h2,h3⟩:=h
  rw [cl_eq]
  refine .mk _ (by simpa only [El.b] using h1) (by simp only [El.s,List.length_map]; exact h2) fun x hx => ?_
  simp only [El.s] at hx
  obtain ⟨y,hy,rfl⟩:=List.mem_map.1 hx
  exact ih y hy (h3 y hy)
theorem z_wd:Wd z:=.mk _ (by simp [z,E32.z0,El.s]) fun x hx => by simp [z,E32.z0,El.s] at hx
theorem z_nn:E31.Nn z:=.mk _ (by simp [z,E32.z0,El.b]) (by simp [z,E32.z0,El.s]) fun x hx => by simp [z,E32.z0,El.s] at hx
theorem z_sh:E33.Sh z:=.mk _ (by simp [z,E32.z0,El.b]) (by simp [z,E32.z0,El.s]) fun x hx => by simp [z,E32.z0,El.s] at hx
theorem both (e:El) (he:e.ok) (wd:Wd e) (nn:E31.Nn e) (sh:E33.Sh e) (hl:e.s.length ≤ 1000) (hb:∀ x ∈ e.s,x.b.length ≤ 1000):∃ n x0 x1 x2 x3 x4 x5 x6 x7 x8 x9 x10 x11 x12 x13 x14 x15 b p p' q w,Told e n x0 x1 x2 x3 x4 x5 x6 x7 x8 x9 x10 x11 x12 x13 x14 x15 b p p' q w:=by
  obtain ⟨N0,C0⟩:=E10.check e he
  obtain ⟨_,_,wds⟩:=wd
  obtain ⟨_,_,_,nns⟩:=nn
  obtain ⟨_,_,_,shs⟩:=sh
  have S:=fun k c (hk:70 ≤ k) => F8.sequence false c lA e tS (by omega) (by simp) k (by simp; omega) 0
  have S':=fun k c (hk:70 ≤ k) => F10.rsequence false c lA e tS (by omega) (by simp) k (by simp; omega) 0
  simp only [List.map,Fld.av,Fld.cells,tS] at S S'
  by_cases h0:(chk e.core 1 0 0).1=0
  case neg => exact ⟨0,0,0,0,0,0,0,0,0,0,0,0,0,0,0,0,0,false,z,z,[],_,⟨⟨_,A2.chk (N0 + 100) (by omega) e _ h0 (C0 _ (by omega) 0)⟩,⟨_,A3.chk (N0 + 100) (by omega) e _ h0 (C0 _ (by omega) 0)⟩,z_ok,rfl,by simp,fun h => absurd h h0,fun _ => ⟨rfl,rfl,rfl,rfl,rfl⟩⟩⟩
  have hv:=vld_of _ _ _ _ h0
  rw [h0] at C0
  have hvs:∀ x ∈ e.s,vld x.core:=by rw [vld_eq] at hv; exact vlds_all.1 hv.2.2.2
  have hB:∀ x ∈ e.s,isB x.b:=fun x hx => (he.sub x hx).bb
  cases hq:sq e tS lA with
  | inr q =>
    obtain ⟨er,p⟩:=q
    rw [hq] at S S'
    have hbad:=F11.sq_bad hq
    exact ⟨0,0,0,0,0,0,0,0,0,0,0,0,0,0,0,0,0,false,z,z,p,er,⟨⟨_,A2.seq (N0 + 100) (by omega) e p er hbad.1 (C0 _ (by omega) 0) fun c => S _ c (by omega)⟩,⟨_,A3.seq (N0 + 100) (by omega) e p er hbad.1 (C0 _ (by omega) 0) fun c => S' _ c (by omega)⟩,z_ok,rfl,by omega,fun h => absurd h hbad.1,fun _ => ⟨rfl,rfl,rfl,rfl,rfl⟩⟩⟩
  | inl o =>
    rw [hq] at S S'
    obtain ⟨ht,c2⟩:=casesA e o hq
    have G:∀ x ∈ e.s,∃ n x0 x1 x2 x3 x4 x5 x6 x7 x8 x9 x10 x11 x12 x13 x14 x15 w,OH.get x.b=(n,[x0,x1,x2,x3,x4,x5,x6,x7,x8,x9,x10,x11,x12,x13,x14,x15],w) ∧ ∃ N,Con E N 66 [.sl x.fb (bs x.b) x.cb] (.tup [.agg [.int .u8 n,.int .u32 x0,.int .u32 x1,.int .u32 x2,.int .u32 x3,.int .u32 x4,.int .u32 x5,.int .u32 x6,.int .u32 x7,.int .u32 x8,.int .u32 x9,.int .u32 x10,.int .u32 x11,.int .u32 x12,.int .u32 x13,.int .u32 x14,.int .u32 x15],.int .i64 w]):=fun x hx => by
      obtain ⟨N,g⟩:=Q22.get x.fb x.cb x.b (fun y hy => hB x hx y hy) (hb x hx)
      have gl:=OH.get_len x.b
      obtain ⟨x0,x1,x2,x3,x4,x5,x6,x7,x8,x9,x10,x11,x12,x13,x14,x15,hxs⟩:=l16 _ gl
      refine ⟨(OH.get x.b).1,x0,x1,x2,x3,x4,x5,x6,x7,x8,x9,x10,x11,x12,x13,x14,x15,(OH.get x.b).2.2,?_,N,?_⟩
      · rw [← hxs]
      · rw [hxs] at g; exact g
    rcases c2 with ⟨x,hs,rfl,hx⟩ | ⟨x,y,hs,rfl,hx⟩
    · have mx:x ∈ e.s:=by rw [hs]; simp
      obtain ⟨n,x0,x1,x2,x3,x4,x5,x6,x7,x8,x9,x10,x11,x12,x13,x14,x15,w,hg,N1,G1⟩:=G x mx
      obtain ⟨k,hk⟩:∃ k,N0 + N1 + 100=k:=⟨_,rfl⟩
      have C:=C0 (k + 10) (by omega) 0
      have B:=G1 (k + 10) (by omega) 0
      by_cases hw:w=0
      · subst hw
        have ok:=OH.get_ok x.b (hB x mx) (by rw [hg])
        rw [hg] at ok
        simp only at ok
        obtain ⟨o1,o2,o3,o4,o5,o6⟩:=ok
        have lo:(lf (OP.octs n [x0,x1,x2,x3,x4,x5,x6,x7,x8,x9,x10,x11,x12,x13,x14,x15])).ok:=lf_ok _ (by rw [o2]; exact hB x mx) (by rw [o2]; exact (he.sub x mx).bl)
        refine ⟨n,x0,x1,x2,x3,x4,x5,x6,x7,x8,x9,x10,x11,x12,x13,x14,x15,false,z,z,[],0,⟨⟨_,A2.ok1 k (by omega) e x n x0 x1 x2 x3 x4 x5 x6 x7 x8 x9 x10 x11 x12 x13 x14 x15 hs C (fun c => S _ c (by omega)) B⟩,⟨_,A3.ok1 k (by omega) e x n x0 x1 x2 x3 x4 x5 x6 x7 x8 x9 x10 x11 x12 x13 x14 x15 hs C (fun c => S' _ c (by omega)) B⟩,z_ok,rfl,by simp,fun _ => ⟨rfl,by omega,by omega,o4,o1,fun _ => rfl,?_,?_,z_wd,z_nn,z_sh,h0⟩,fun h => absurd rfl h⟩⟩
        · exact tp_ok _ _ (fun u hu => by rw [List.mem_singleton.1 hu]; exact lo) (by simp)
        · exact core_of e hv ht _ _ (by rw [hs,El.cores_map,El.cores_map]; simp [lf_core x _ (hvs x mx) hx o2])
      · exact ⟨0,0,0,0,0,0,0,0,0,0,0,0,0,0,0,0,0,false,z,z,[0],w,⟨⟨_,A2.get1 k (by omega) e x n x0 x1 x2 x3 x4 x5 x6 x7 x8 x9 x10 x11 x12 x13 x14 x15 w hw hs C (fun c => S _ c (by omega)) B⟩,⟨_,A3.get1 k (by omega) e x n x0 x1 x2 x3 x4 x5 x6 x7 x8 x9 x10 x11 x12 x13 x14 x15 w hw hs C (fun c => S' _ c (by omega)) B⟩,z_ok,rfl,by simp,fun h => absurd h hw,fun _ => ⟨rfl,rfl,rfl,rfl,rfl⟩⟩⟩
    · have mx:x ∈ e.s:=by rw [hs]; simp
      have my:y ∈ e.s:=by rw [hs]; simp
      obtain ⟨n,x0,x1,x2,x3,x4,x5,x6,x7,x8,x9,x10,x11,x12,x13,x14,x15,w,hg,N1,G1⟩:=G x mx
      obtain ⟨N2,C2⟩:=A1.clone y (wds y my) (nns y my) (shs y my)
      obtain ⟨k,hk⟩:∃ k,N0 + N1 + N2 + 100=k:=⟨_,rfl⟩
      have C:=C0 (k + 10) (by omega) 0
      have B:=G1 (k + 10) (by omega) 0
      by_cases hw:w=0
      · subst hw
        have ok:=OH.get_ok x.b (hB x mx) (by rw [hg])
        rw [hg] at ok
        simp only at ok
        obtain ⟨o1,o2,o3,o4,o5,o6⟩:=ok
        have lo:(lf (OP.octs n [x0,x1,x2,x3,x4,x5,x6,x7,x8,x9,x10,x11,x12,x13,x14,x15])).ok:=lf_ok _ (by rw [o2]; exact hB x mx) (by rw [o2]; exact (he.sub x mx).bl)
        refine ⟨n,x0,x1,x2,x3,x4,x5,x6,x7,x8,x9,x10,x11,x12,x13,x14,x15,true,clo y,y,[],0,⟨⟨_,A2.ok2 k (by omega) e x y n x0 x1 x2 x3 x4 x5 x6 x7 x8 x9 x10 x11 x12 x13 x14 x15 hs C (fun c => S _ c (by omega)) B (C2 _ (by omega) 0)⟩,⟨_,A3.ok2 k (by omega) e x y n x0 x1 x2 x3 x4 x5 x6 x7 x8 x9 x10 x11 x12 x13 x14 x15 hs C (fun c => S' _ c (by omega)) B⟩,cl_ok y (he.sub y my),cl_core y,by simp,fun _ => ⟨rfl,by omega,by omega,o4,o1,fun h => (by cases h),?_,?_,cl_wd y (wds y my),cl_nn y (nns y my),cl_sh y (shs y my),h0⟩,fun h => absurd rfl h⟩⟩
        · refine tp_ok _ _ (fun u hu => ?_) (by simp)
          rcases List.mem_cons.1 hu with rfl | hu
          · exact lo
          · rw [List.mem_singleton.1 hu]; exact cl_ok _ (cl_ok y (he.sub y my))
        · exact core_of e hv ht _ _ (by rw [hs,El.cores_map,El.cores_map]; simp [lf_core x _ (hvs x mx) hx o2,cl_core])
      · exact ⟨0,0,0,0,0,0,0,0,0,0,0,0,0,0,0,0,0,false,z,z,[0],w,⟨⟨_,A2.get2 k (by omega) e x y n x0 x1 x2 x3 x4 x5 x6 x7 x8 x9 x10 x11 x12 x13 x14 x15 w hw hs C (fun c => S _ c (by omega)) B⟩,⟨_,A3.get2 k (by omega) e x y n x0 x1 x2 x3 x4 x5 x6 x7 x8 x9 x10 x11 x12 x13 x14 x15 w hw hs C (fun c => S' _ c (by omega)) B⟩,z_ok,rfl,by simp,fun h => absurd h hw,fun _ => ⟨rfl,rfl,rfl,rfl,rfl⟩⟩⟩
end A4
end
end
section
open Ab Go TabE Sp E34 F1 Rw F5 F6 F7 F8 F43 F47 AP A1 A2 A6 A7 K1 K3
namespace K5
theorem under_ (i e:Int) (he:e ≠ 0):Con E 20 82 [.int .i64 i,fF [] e] (fF [i] e):=by
  refine con_of E_fn82 (by simp [AV.pureL,AV.pure]) (Nat.le_of_ble_eq_true rfl) rfl rfl (g:=[]) ?_
  rw [body_82,c82]
  simp [↓s_seq,↓s_reg,↓s_regd,↓s_cond,↓s_cons,s_nil,s_val,s_skip,s_rgx,s_sqn,s_cdb,s_ret',s_skip',s_finr,s_fin1,s_fix,s_clean,o_tmp,o_int,l_hit,l_miss,ol_nil,ol_cons,ol_some,x_move,x_assign,x_bin,bn_s,x_callB,frame0,binA,intOp,resL,resA,results1,sealLW,AV.pure,AV.pureL,keepT,x_alloc,x_box,bxx,x_build,bdx,x_load,ldx,x_store,stx,x_slice,slx,x_fieldAddr,x_indexAddr,iax,x_makeSlice,msx,newK,genOf,setK,lookK,fillA,writeL,writeC,readC,conts,TyI.mk1,sliceA,boundsA,boundsB,fitsA,numA,indexAddrA,fieldAddrA,appendA,copyA,builtinA,AV.cells,gcH,reach,keysT,keepK,inKs,AV.keys,AV.keysL,Ty.isAgg,w_i64,sc_int,sc_sl,sc_ref,sl_row,sealRow,sealY,sl_int,sl_agg,i_beq,he]
theorem under0 (K:Nat) (hK:40 ≤ K) (w:Int) (hw:w ≠ 0):∀ h,aCall E K 0 82 [.int .i64 0,.agg [.sl true [] (some 0),.int .i64 w]] h=some (.ret (fF [0] w),h):=under_ 0 w hw K (by omega) 0
theorem under1_ (i j w:Int) (hw:w ≠ 0):Con E 20 82 [.int .i64 i,fF [j] w] (fF [i,j] w):=by
  refine con_of E_fn82 (by simp [AV.pureL,AV.pure]) (Nat.le_of_ble_eq_true rfl) rfl rfl (g:=[]) ?_
  rw [body_82,c82]
  simp [↓s_seq,↓s_reg,↓s_regd,↓s_cond,↓s_cons,s_nil,s_val,s_skip,s_rgx,s_sqn,s_cdb,s_ret',s_skip',s_finr,s_fin1,s_fix,s_clean,o_tmp,o_int,l_hit,l_miss,ol_nil,ol_cons,ol_some,x_move,x_assign,x_bin,bn_s,x_callB,frame0,binA,intOp,resL,resA,results1,sealLW,AV.pure,AV.pureL,keepT,x_alloc,x_box,bxx,x_build,bdx,x_load,ldx,x_store,stx,x_slice,slx,x_fieldAddr,x_indexAddr,iax,x_makeSlice,msx,newK,genOf,setK,lookK,fillA,writeL,writeC,readC,conts,TyI.mk1,sliceA,boundsA,boundsB,fitsA,numA,indexAddrA,fieldAddrA,appendA,copyA,builtinA,AV.cells,gcH,reach,keysT,keepK,inKs,AV.keys,AV.keysL,Ty.isAgg,w_i64,sc_int,sc_sl,sc_ref,sl_row,sealRow,sealY,sl_int,sl_agg,i_beq,hw]
theorem under1 (K:Nat) (hK:40 ≤ K) (j w:Int) (hw:w ≠ 0):∀ h,aCall E K 0 82 [.int .i64 0,.agg [.sl false [.int .i64 j] (some 1),.int .i64 w]] h=some (.ret (fF [0,j] w),h):=under1_ 0 j w hw K (by omega) 0
abbrev SqK (K:Nat) (e:El) (v:AV):Prop:=∀ c h,aCall E K 0 69 [e.av,.agg [.int .u8 0,.bool true,.int .u32 16],.sl false [.agg [.int .u8 0,.bool true,.int .u32 16,.bool false,.bool false],.agg [.int .u8 0,.bool false,.int .u32 3,.bool false,.bool false]] c] h=some (.ret v,h)
abbrev OfA (K:Nat) (x:El) (n x0 x1 x2 x3 x4 x5 x6 x7 x8 x9 x10 x11 x12 x13 x14 x15:Int) (b:Bool) (p:El) (q:List Int) (w:Int):Prop:=∀ h,aCall E K 0 15 [x.av] h=some (.ret (.tup [ag n x0 x1 x2 x3 x4 x5 x6 x7 x8 x9 x10 x11 x12 x13 x14 x15 b p,fF q w]),h)
abbrev OfB (K:Nat) (y:El) (f:Bool) (u:List Int) (c:Option Nat) (j v:Int):Prop:=∀ h,aCall E K 0 38 [y.av] h=some (.ret (.tup [.sl f (bs u) c,.int .i64 j,.int .i64 v]),h)
abbrev zkg:AV:=.agg [.int .u8 0,.int .u32 0,.int .u32 0,.int .u32 0,.int .u32 0,.int .u32 0,.int .u32 0,.int .u32 0,.int .u32 0,.int .u32 0,.int .u32 0,.int .u32 0,.int .u32 0,.int .u32 0,.int .u32 0,.int .u32 0,.int .u32 0,.bool false,.int .u8 0,.bool false,.int .u32 0,.sl true [] (some 0),.sl true [] (some 0),.sl true [] (some 0),.int .i64 0]
abbrev R0 (q:List Int) (w:Int):AV:=.tup [zkg,fF q w]
theorem chk (K:Nat) (hK:60 ≤ K) (e:El) (w:Int) (hw:w ≠ 0) (C:Ck K e w):Con E (K + 1) 34 [e.av] (R0 [] w):=by
  have F0:=fun w => A1.fnil w K (by omega) 0
  try simp at F0
  refine con_of E_fn34 (by simp [AV.pureL,El.av_pure]) (Nat.le_of_ble_eq_true rfl) rfl rfl (g:=[]) ?_
  rw [body_34,c34]
  unfold Ck at C; rw [El.av_eq] at C ⊢
  simp [↓s_seq,↓s_reg,↓s_cond,↓s_cons,s_nil,s_val,s_skip,s_calls,s_cax,s_ret,s_rgx,s_sqn,s_sqr,s_cdb,s_ret',s_finr,s_fin1,s_fix,s_clean,o_tmp,o_int,o_nil,l_hit,l_miss,ol_nil,ol_cons,ol_some,x_move,x_assign,x_bin,bn_s,x_callF,cl_no,frame0,binA,intOp,resL,resA,results1,sealLW,AV.pure,AV.pureL,keepT,x_alloc,x_box,bxx,x_build,bdx,x_load,ldx,x_store,stx,newK,genOf,setK,lookK,fillA,writeL,writeC,readC,TyI.mk1,AV.cells,gcH,reach,keysT,keepK,inKs,AV.keys,AV.keysL,Ty.isAgg,sc_int,sc_bool,sc_sl,sl_int,sl_sl,sl_agg,sl_tup,i_bne,C,hw,F0]
theorem seq (K:Nat) (hK:60 ≤ K) (e:El) (p:List Int) (w:Int) (hw:w ≠ 0) (C:Ck K e 0) (S:SqK K e (.tup [.sl true [] (some 0),fF p w])):Con E (K + 1) 34 [e.av] (R0 p w):=by
  have np:=ns_pure p
  refine con_of E_fn34 (by simp [AV.pureL,El.av_pure]) (Nat.le_of_ble_eq_true rfl) rfl rfl (g:=[]) ?_
  rw [body_34,c34]
  unfold Ck at C; unfold SqK at S; rw [El.av_eq] at C S
  rw [El.av_eq]
  simp [↓s_seq,↓s_reg,↓s_cond,↓s_cons,s_nil,s_val,s_skip,s_calls,s_cax,s_ret,s_rgx,s_sqn,s_sqr,s_cdb,s_ret',s_skip',s_finr,s_fin1,s_fix,s_clean,o_tmp,o_int,l_hit,l_miss,ol_nil,ol_cons,ol_some,x_move,x_assign,x_bin,bn_s,x_extract,x_callF,cl_no,frame0,binA,intOp,resL,resA,results1,sealLW,AV.pure,AV.pureL,keepT,x_alloc,x_box,bxx,x_build,bdx,x_buildSliceF,bsf,x_load,ldx,x_store,stx,x_fieldAddr,newK,genOf,setK,lookK,fillA,writeL,writeC,readC,TyI.mk1,fieldAddrA,AV.cells,chunk,gcH,reach,keysT,keepK,inKs,AV.keys,AV.keysL,Ty.isAgg,sc_int,sc_bool,sc_sl,sl_sl,sl_agg,sl_tup,i_bne,↓s_regD,s_rgy,barOf,dynChk,footL,dynOK,disjK,keysOp,opVals,Op.operands,C,hw,S,o_glob]
abbrev qo (a b:Int):AV:=.tup [.sl false [.int .i64 a,.int .i64 b] (some 2),.agg [.sl true [] (some 0),.int .i64 0]]
theorem badA0 (k:Nat) (hK:60 ≤ k) (e x y:El) (hs:e.s=[x,y]) (C:Ck (k + 10) e 0) (S:SqK (k + 10) e (qo 0 1)) (n x0 x1 x2 x3 x4 x5 x6 x7 x8 x9 x10 x11 x12 x13 x14 x15:Int) (b:Bool) (p:El) (w:Int) (hw:w ≠ 0) (A:OfA (k + 10) x n x0 x1 x2 x3 x4 x5 x6 x7 x8 x9 x10 x11 x12 x13 x14 x15 b p [] w):Con E (k + 10 + 1) 34 [e.av] (R0 [0] w):=by
  have U:=under0 (k + 10) (by omega) w hw
  try simp at U
  have x0:=El.at_ e.fs e.cs [x,y] 0 x rfl
  have x1:=El.at_ e.fs e.cs [x,y] 1 y rfl
  simp [El.avs] at x0 x1
  refine con_of E_fn34 (by simp [AV.pureL,El.av_pure]) (Nat.le_of_ble_eq_true rfl) rfl rfl (g:=[]) ?_
  rw [body_34,c34]
  unfold Ck at C; unfold SqK at S; rw [El.av_eq,hs] at C S
  rw [El.av_eq,hs]
  unfold OfA at A; rw [El.av_eq x] at A
  simp [El.avs] at C S
  simp [↓s_seq,↓s_reg,↓s_cond,↓s_cons,s_nil,s_val,s_skip,s_calls,s_cax,s_ret,s_rgx,s_sqn,s_sqr,s_cdb,s_ret',s_skip',s_finr,s_fin1,s_fix,s_clean,o_tmp,o_int,l_hit,l_miss,ol_nil,ol_cons,ol_some,x_move,x_assign,x_bin,bn_s,x_extract,x_callF,cl_no,frame0,binA,intOp,resL,resA,results1,sealLW,AV.pure,AV.pureL,keepT,x_alloc,x_box,bxx,x_build,bdx,x_buildSliceF,bsf,x_load,ldx,x_store,stx,x_fieldAddr,x_indexAddr,iax,newK,genOf,setK,lookK,fillA,writeL,writeC,readC,TyI.mk1,fieldAddrA,AV.cells,chunk,gcH,reach,keysT,keepK,inKs,AV.keys,AV.keysL,Ty.isAgg,sc_int,sc_bool,sc_sl,sl_int,sl_sl,sl_agg,sl_tup,i_bne,C,S,A,U,hw,o_glob,El.avs,x0]
theorem badA1 (k:Nat) (hK:60 ≤ k) (e x y:El) (hs:e.s=[x,y]) (C:Ck (k + 10) e 0) (S:SqK (k + 10) e (qo 0 1)) (n x0 x1 x2 x3 x4 x5 x6 x7 x8 x9 x10 x11 x12 x13 x14 x15:Int) (b:Bool) (p:El) (j w:Int) (hw:w ≠ 0) (A:OfA (k + 10) x n x0 x1 x2 x3 x4 x5 x6 x7 x8 x9 x10 x11 x12 x13 x14 x15 b p [j] w):Con E (k + 10 + 1) 34 [e.av] (R0 [0,j] w):=by
  have U:=under1 (k + 10) (by omega) j w hw
  try simp at U
  have x0:=El.at_ e.fs e.cs [x,y] 0 x rfl
  have x1:=El.at_ e.fs e.cs [x,y] 1 y rfl
  simp [El.avs] at x0 x1
  refine con_of E_fn34 (by simp [AV.pureL,El.av_pure]) (Nat.le_of_ble_eq_true rfl) rfl rfl (g:=[]) ?_
  rw [body_34,c34]
  unfold Ck at C; unfold SqK at S; rw [El.av_eq,hs] at C S
  rw [El.av_eq,hs]
  unfold OfA at A; rw [El.av_eq x] at A
  simp [El.avs] at C S
  simp [↓s_seq,↓s_reg,↓s_cond,↓s_cons,s_nil,s_val,s_skip,s_calls,s_cax,s_ret,s_rgx,s_sqn,s_sqr,s_cdb,s_ret',s_skip',s_finr,s_fin1,s_fix,s_clean,o_tmp,o_int,l_hit,l_miss,ol_nil,ol_cons,ol_some,x_move,x_assign,x_bin,bn_s,x_extract,x_callF,cl_no,frame0,binA,intOp,resL,resA,results1,sealLW,AV.pure,AV.pureL,keepT,x_alloc,x_box,bxx,x_build,bdx,x_buildSliceF,bsf,x_load,ldx,x_store,stx,x_fieldAddr,x_indexAddr,iax,newK,genOf,setK,lookK,fillA,writeL,writeC,readC,TyI.mk1,fieldAddrA,AV.cells,chunk,gcH,reach,keysT,keepK,inKs,AV.keys,AV.keysL,Ty.isAgg,sc_int,sc_bool,sc_sl,sl_int,sl_sl,sl_agg,sl_tup,i_bne,C,S,A,U,hw,o_glob,El.avs,x0]
theorem badB (k:Nat) (hK:60 ≤ k) (e x y:El) (hs:e.s=[x,y]) (C:Ck (k + 10) e 0) (S:SqK (k + 10) e (qo 0 1)) (n x0 x1 x2 x3 x4 x5 x6 x7 x8 x9 x10 x11 x12 x13 x14 x15:Int) (b:Bool) (p:El) (A:OfA (k + 10) x n x0 x1 x2 x3 x4 x5 x6 x7 x8 x9 x10 x11 x12 x13 x14 x15 b p [] 0) (f:Bool) (u:List Int) (c:Option Nat) (j v:Int) (hv:v ≠ 0) (B:OfB (k + 10) y f u c j v):Con E (k + 10 + 1) 34 [e.av] (R0 [1] v):=by
  unfold OfB at B; rw [El.av_eq y] at B
  have F1:=fun w c => A1.fone w 1 c (k + 10) (by omega) 0
  try simp at F1
  have x0:=El.at_ e.fs e.cs [x,y] 0 x rfl
  have x1:=El.at_ e.fs e.cs [x,y] 1 y rfl
  simp [El.avs] at x0 x1
  refine con_of E_fn34 (by simp [AV.pureL,El.av_pure]) (Nat.le_of_ble_eq_true rfl) rfl rfl (g:=[]) ?_
  rw [body_34,c34]
  unfold Ck at C; unfold SqK at S; rw [El.av_eq,hs] at C S
  rw [El.av_eq,hs]
  unfold OfA at A; rw [El.av_eq x] at A
  simp [El.avs] at C S
  simp [↓s_seq,↓s_reg,↓s_cond,↓s_cons,s_nil,s_val,s_skip,s_calls,s_cax,s_ret,s_rgx,s_sqn,s_sqr,s_cdb,s_ret',s_skip',s_finr,s_fin1,s_fix,s_clean,o_tmp,o_int,l_hit,l_miss,ol_nil,ol_cons,ol_some,x_move,x_assign,x_bin,bn_s,x_extract,x_callF,cl_no,frame0,binA,intOp,resL,resA,results1,sealLW,AV.pure,AV.pureL,keepT,x_alloc,x_box,bxx,x_build,bdx,x_buildSliceF,bsf,x_load,ldx,x_store,stx,x_fieldAddr,x_indexAddr,iax,newK,genOf,setK,lookK,fillA,writeL,writeC,readC,TyI.mk1,fieldAddrA,AV.cells,chunk,gcH,reach,keysT,keepK,inKs,AV.keys,AV.keysL,Ty.isAgg,sc_int,sc_bool,sc_sl,sl_int,sl_sl,sl_agg,sl_tup,i_bne,C,S,A,B,hv,F1,o_glob,El.avs,x0,x1]
theorem ok (k:Nat) (hK:60 ≤ k) (e x y:El) (hs:e.s=[x,y]) (C:Ck (k + 10) e 0) (S:SqK (k + 10) e (qo 0 1)) (n x0 x1 x2 x3 x4 x5 x6 x7 x8 x9 x10 x11 x12 x13 x14 x15:Int) (b:Bool) (p:El) (A:OfA (k + 10) x n x0 x1 x2 x3 x4 x5 x6 x7 x8 x9 x10 x11 x12 x13 x14 x15 b p [] 0) (f:Bool) (u:List Int) (c:Option Nat) (j:Int) (B:OfB (k + 10) y f u c j 0):Con E (k + 10 + 1) 34 [e.av] ((.tup [kg n x0 x1 x2 x3 x4 x5 x6 x7 x8 x9 x10 x11 x12 x13 x14 x15 b p f u c j,fF [] 0])):=by
  unfold OfB at B; rw [El.av_eq y] at B
  have x0:=El.at_ e.fs e.cs [x,y] 0 x rfl
  have x1:=El.at_ e.fs e.cs [x,y] 1 y rfl
  simp [El.avs] at x0 x1
  refine con_of E_fn34 (by simp [AV.pureL,El.av_pure]) (Nat.le_of_ble_eq_true rfl) rfl rfl (g:=[]) ?_
  rw [body_34,c34]
  unfold Ck at C; unfold SqK at S; rw [El.av_eq,hs] at C S
  rw [El.av_eq,hs]
  unfold OfA at A; rw [El.av_eq x] at A
  simp [El.avs] at C S
  simp [↓s_seq,↓s_reg,↓s_cond,↓s_cons,s_nil,s_val,s_skip,s_calls,s_cax,s_ret,s_rgx,s_sqn,s_cdb,s_ret',s_skip',s_finr,s_fin1,s_fix,s_clean,o_tmp,o_int,l_hit,l_miss,ol_nil,ol_cons,ol_some,x_move,x_assign,x_bin,bn_s,x_extract,x_callF,cl_no,frame0,binA,intOp,resL,resA,results1,sealLW,AV.pure,AV.pureL,keepT,x_alloc,x_box,bxx,x_build,bdx,x_buildSliceF,bsf,x_load,ldx,x_store,stx,x_fieldAddr,x_indexAddr,iax,newK,genOf,setK,lookK,fillA,writeL,writeC,readC,TyI.mk1,fieldAddrA,AV.cells,chunk,gcH,reach,keysT,keepK,inKs,AV.keys,AV.keysL,Ty.isAgg,sc_int,sc_bool,sc_sl,sl_sl,sl_agg,sl_tup,C,S,A,B,o_glob,El.avs,x0,x1]
end K5
end
