/- law13.told at the evaluator: its cases. Written by gA2.py. No conditions. -/
import Derived.Test.YtbiildmljbcmeaaDoorA2
import Derived.Test.YtbiildmljbcmeaaDoorF11
open Ab Go TabE Sp E34 F1 Rw F5 F6 F7 F8 F43 F47 AP A1 A2
set_option maxRecDepth 20000
set_option linter.unusedSimpArgs false
set_option linter.unusedVariables false
set_option maxHeartbeats 8000000
namespace A3
abbrev SqR (K:Nat) (e:El) (v:AV):Prop:=∀ c h,aCall E K 0 36 [e.av,.agg [.int .u8 0,.bool true,.int .u32 16],.sl false [.agg [.int .u8 0,.bool false,.int .u32 6,.bool false,.bool false],.agg [.int .u8 0,.bool false,.int .u32 0,.bool true,.bool true]] c] h=some (.ret v,h)
abbrev RR (n x0 x1 x2 x3 x4 x5 x6 x7 x8 x9 x10 x11 x12 x13 x14 x15:Int) (b:Bool) (p:El):AV:=.tup [ag n x0 x1 x2 x3 x4 x5 x6 x7 x8 x9 x10 x11 x12 x13 x14 x15 b p,fR [] 0]
abbrev RR0 (q:List Int) (w:Int):AV:=.tup [zag,fR q w]
abbrev qo (a b:Int):AV:=.tup [.sl false [.int .i64 a,.int .i64 b] none,.agg [.sl true [] (some 0),.int .i64 0]]
theorem seqT (K:Nat) (hK:5 ≤ K):∀ h,aCall E K 0 26 [] h=some (.ret (.agg [.int .u8 0,.bool true,.int .u32 16]),h):=Con.of (g:=[]) (N:=5) rfl (by kernel_rfl) K hK 0
theorem oidT (K:Nat) (hK:5 ≤ K):∀ h,aCall E K 0 67 [] h=some (.ret (.agg [.int .u8 0,.bool false,.int .u32 6]),h):=Con.of (g:=[]) (N:=5) rfl (by kernel_rfl) K hK 0
theorem chk (K:Nat) (hK:60 ≤ K) (e:El) (w:Int) (hw:w ≠ 0) (C:Ck K e w):Con E (K + 1) 16 [e.av] (RR0 [] w):=by
  have F0:=fun w => rnil w (-1) (by omega) K (by omega) 0
  have F1:=fun w => rone w 0 (by omega) K (by omega) 0
  have t0:=seqT K (by omega)
  have t1:=oidT K (by omega)
  try simp at F0
  try simp at F1
  refine con_of E_fn16 (by simp [AV.pureL,El.av_pure]) (Nat.le_of_ble_eq_true rfl) rfl rfl (g:=[]) ?_
  rw [body_16,c16]
  unfold Ck at C; rw [El.av_eq] at C ⊢
  simp [↓s_seq,↓s_reg,↓s_cond,↓s_cons,s_nil,s_val,s_skip,s_calls,s_callP,s_cax,s_ret,s_rgx,s_sqn,s_sqr,s_cdb,s_ret',s_finr,s_fin1,s_fix,s_clean,o_tmp,o_int,l_hit,l_miss,ol_nil,ol_cons,ol_some,x_move,x_assign,x_bin,bn_s,x_callF,cl_no,frame0,binA,intOp,resL,resA,results1,sealLW,AV.pure,AV.pureL,keepT,x_alloc,x_box,bxx,x_load,ldx,x_store,stx,newK,genOf,setK,lookK,writeL,writeC,readC,TyI.mk1,AV.cells,gcH,reach,keysT,keepK,inKs,AV.keys,AV.keysL,Ty.isAgg,sc_int,sc_bool,sc_sl,sl_agg,sl_tup,i_bne,↓s_regD,s_rgy,barOf,dynChk,C,hw,F0]
theorem seq (K:Nat) (hK:60 ≤ K) (e:El) (p:List Int) (w:Int) (hw:w ≠ 0) (C:Ck K e 0) (S:SqR K e (.tup [.sl true [] (some 0),fR p w])):Con E (K + 1) 16 [e.av] (RR0 p w):=by
  have F0:=fun w => rnil w (-1) (by omega) K (by omega) 0
  have F1:=fun w => rone w 0 (by omega) K (by omega) 0
  have t0:=seqT K (by omega)
  have t1:=oidT K (by omega)
  try simp at F0
  try simp at F1
  have np:=ns_pure p
  refine con_of E_fn16 (by simp [AV.pureL,El.av_pure]) (Nat.le_of_ble_eq_true rfl) rfl rfl (g:=[]) ?_
  rw [body_16,c16]
  unfold Ck at C; unfold SqR at S; rw [El.av_eq] at C S
  rw [El.av_eq]
  simp [↓s_seq,↓s_reg,↓s_cond,↓s_cons,s_nil,s_val,s_skip,s_calls,s_callP,s_cax,s_ret,s_rgx,s_sqn,s_sqr,s_cdb,s_ret',s_skip',s_finr,s_fin1,s_fix,s_clean,o_tmp,o_int,o_bool,l_hit,l_miss,ol_nil,ol_cons,ol_some,x_move,x_assign,x_bin,bn_s,x_extract,x_callF,cl_no,frame0,binA,intOp,resL,resA,results1,sealLW,AV.pure,AV.pureL,keepT,x_alloc,x_box,bxx,x_build,bdx,x_buildSliceF,bsf,x_load,ldx,x_store,stx,x_fieldAddr,newK,genOf,setK,lookK,fillA,writeL,writeC,readC,TyI.mk1,fieldAddrA,AV.cells,chunk,gcH,reach,keysT,keepK,inKs,AV.keys,AV.keysL,Ty.isAgg,sc_int,sc_bool,sc_sl,sl_agg,sl_tup,i_bne,↓s_regD,s_rgy,barOf,dynChk,footL,dynOK,disjK,keysOp,opVals,Op.operands,C,hw,S,t0,t1]
theorem get1 (k:Nat) (hK:60 ≤ k) (e x:El) (n x0 x1 x2 x3 x4 x5 x6 x7 x8 x9 x10 x11 x12 x13 x14 x15 w:Int) (hw:w ≠ 0) (hs:e.s=[x]) (C:Ck (k + 10) e 0) (S:SqR (k + 10) e (qo 0 (-1))) (B:Og (k + 10) x n x0 x1 x2 x3 x4 x5 x6 x7 x8 x9 x10 x11 x12 x13 x14 x15 w):Con E (k + 10 + 1) 16 [e.av] (RR0 [0] w):=by
  have F0:=fun w => rnil w (-1) (by omega) (k + 10) (by omega) 0
  have F1:=fun w => rone w 0 (by omega) (k + 10) (by omega) 0
  have t0:=seqT (k + 10) (by omega)
  have t1:=oidT (k + 10) (by omega)
  try simp at F0
  try simp at F1
  have x0:=El.at_ e.fs e.cs [x] 0 x rfl
  simp [El.avs] at x0
  refine con_of E_fn16 (by simp [AV.pureL,El.av_pure]) (Nat.le_of_ble_eq_true rfl) rfl rfl (g:=[]) ?_
  rw [body_16,c16]
  unfold Ck at C; unfold SqR at S; rw [El.av_eq,hs] at C S
  rw [El.av_eq,hs]
  unfold Og at B
  simp [El.avs] at C S
  simp [↓s_seq,↓s_reg,↓s_cond,↓s_cons,s_nil,s_val,s_skip,s_calls,s_callP,s_cax,s_ret,s_rgx,s_sqn,s_sqr,s_cdb,s_ret',s_skip',s_finr,s_fin1,s_fix,s_clean,o_tmp,o_int,o_bool,l_hit,l_miss,ol_nil,ol_cons,ol_some,x_move,x_assign,x_bin,bn_s,x_extract,x_callF,cl_no,frame0,binA,intOp,resL,resA,results1,sealLW,AV.pure,AV.pureL,keepT,x_alloc,x_box,bxx,x_build,bdx,x_buildSliceF,bsf,x_load,ldx,x_store,stx,x_fieldAddr,x_indexAddr,iax,newK,genOf,setK,lookK,fillA,writeL,writeC,readC,TyI.mk1,fieldAddrA,AV.cells,chunk,gcH,reach,keysT,keepK,inKs,AV.keys,AV.keysL,Ty.isAgg,sc_int,sc_bool,sc_sl,sl_sl,sl_agg,sl_tup,i_bne,↓s_regD,s_rgy,barOf,dynChk,C,S,B,hw,F1,t0,t1,El.avs,x0]
theorem get2 (k:Nat) (hK:60 ≤ k) (e x y:El) (n x0 x1 x2 x3 x4 x5 x6 x7 x8 x9 x10 x11 x12 x13 x14 x15 w:Int) (hw:w ≠ 0) (hs:e.s=[x,y]) (C:Ck (k + 10) e 0) (S:SqR (k + 10) e (qo 0 1)) (B:Og (k + 10) x n x0 x1 x2 x3 x4 x5 x6 x7 x8 x9 x10 x11 x12 x13 x14 x15 w):Con E (k + 10 + 1) 16 [e.av] (RR0 [0] w):=by
  have F0:=fun w => rnil w (-1) (by omega) (k + 10) (by omega) 0
  have F1:=fun w => rone w 0 (by omega) (k + 10) (by omega) 0
  have t0:=seqT (k + 10) (by omega)
  have t1:=oidT (k + 10) (by omega)
  try simp at F0
  try simp at F1
  have x0:=El.at_ e.fs e.cs [x,y] 0 x rfl
  have x1:=El.at_ e.fs e.cs [x,y] 1 y rfl
  simp [El.avs] at x0 x1
  refine con_of E_fn16 (by simp [AV.pureL,El.av_pure]) (Nat.le_of_ble_eq_true rfl) rfl rfl (g:=[]) ?_
  rw [body_16,c16]
  unfold Ck at C; unfold SqR at S; rw [El.av_eq,hs] at C S
  rw [El.av_eq,hs]
  unfold Og at B
  simp [El.avs] at C S
  simp [↓s_seq,↓s_reg,↓s_cond,↓s_cons,s_nil,s_val,s_skip,s_calls,s_callP,s_cax,s_ret,s_rgx,s_sqn,s_sqr,s_cdb,s_ret',s_skip',s_finr,s_fin1,s_fix,s_clean,o_tmp,o_int,o_bool,l_hit,l_miss,ol_nil,ol_cons,ol_some,x_move,x_assign,x_bin,bn_s,x_extract,x_callF,cl_no,frame0,binA,intOp,resL,resA,results1,sealLW,AV.pure,AV.pureL,keepT,x_alloc,x_box,bxx,x_build,bdx,x_buildSliceF,bsf,x_load,ldx,x_store,stx,x_fieldAddr,x_indexAddr,iax,newK,genOf,setK,lookK,fillA,writeL,writeC,readC,TyI.mk1,fieldAddrA,AV.cells,chunk,gcH,reach,keysT,keepK,inKs,AV.keys,AV.keysL,Ty.isAgg,sc_int,sc_bool,sc_sl,sl_sl,sl_agg,sl_tup,i_bne,↓s_regD,s_rgy,barOf,dynChk,C,S,B,hw,F1,t0,t1,El.avs,x0]
theorem ok1 (k:Nat) (hK:60 ≤ k) (e x:El) (n x0 x1 x2 x3 x4 x5 x6 x7 x8 x9 x10 x11 x12 x13 x14 x15:Int) (hs:e.s=[x]) (C:Ck (k + 10) e 0) (S:SqR (k + 10) e (qo 0 (-1))) (B:Og (k + 10) x n x0 x1 x2 x3 x4 x5 x6 x7 x8 x9 x10 x11 x12 x13 x14 x15 0):Con E (k + 10 + 1) 16 [e.av] (RR n x0 x1 x2 x3 x4 x5 x6 x7 x8 x9 x10 x11 x12 x13 x14 x15 false E32.z0):=by
  have F0:=fun w => rnil w (-1) (by omega) (k + 10) (by omega) 0
  have F1:=fun w => rone w 0 (by omega) (k + 10) (by omega) 0
  have t0:=seqT (k + 10) (by omega)
  have t1:=oidT (k + 10) (by omega)
  try simp at F0
  try simp at F1
  have x0:=El.at_ e.fs e.cs [x] 0 x rfl
  simp [El.avs] at x0
  refine con_of E_fn16 (by simp [AV.pureL,El.av_pure]) (Nat.le_of_ble_eq_true rfl) rfl rfl (g:=[]) ?_
  rw [body_16,c16]
  unfold Ck at C; unfold SqR at S; rw [El.av_eq,hs] at C S
  rw [El.av_eq,hs]
  unfold Og at B
  simp [El.avs] at C S
  simp [↓s_seq,↓s_reg,↓s_cond,↓s_cons,s_nil,s_val,s_skip,s_calls,s_callP,s_cax,s_ret,s_rgx,s_sqn,s_cdb,s_ret',s_skip',s_finr,s_fin1,s_fix,s_clean,o_tmp,o_int,o_bool,l_hit,l_miss,ol_nil,ol_cons,ol_some,x_move,x_assign,x_bin,bn_s,x_extract,x_callF,cl_no,frame0,binA,intOp,resL,resA,results1,sealLW,AV.pure,AV.pureL,keepT,x_alloc,x_box,bxx,x_build,bdx,x_buildSliceF,bsf,x_load,ldx,x_store,stx,x_fieldAddr,x_indexAddr,iax,newK,genOf,setK,lookK,fillA,writeL,writeC,readC,TyI.mk1,fieldAddrA,AV.cells,chunk,gcH,reach,keysT,keepK,inKs,AV.keys,AV.keysL,Ty.isAgg,sc_int,sc_bool,sc_sl,sl_sl,sl_agg,sl_tup,i_beq,↓s_regD,s_rgy,barOf,dynChk,footL,dynOK,disjK,keysOp,opVals,Op.operands,C,S,B,t0,t1,El.avs,i1,x0]
  first | exact ⟨rfl,rfl,rfl,⟨rfl,rfl,rfl⟩,rfl,rfl,rfl⟩ | rfl
theorem ok2 (k:Nat) (hK:60 ≤ k) (e x y:El) (n x0 x1 x2 x3 x4 x5 x6 x7 x8 x9 x10 x11 x12 x13 x14 x15:Int) (hs:e.s=[x,y]) (C:Ck (k + 10) e 0) (S:SqR (k + 10) e (qo 0 1)) (B:Og (k + 10) x n x0 x1 x2 x3 x4 x5 x6 x7 x8 x9 x10 x11 x12 x13 x14 x15 0):Con E (k + 10 + 1) 16 [e.av] (RR n x0 x1 x2 x3 x4 x5 x6 x7 x8 x9 x10 x11 x12 x13 x14 x15 true y):=by
  have F0:=fun w => rnil w (-1) (by omega) (k + 10) (by omega) 0
  have F1:=fun w => rone w 0 (by omega) (k + 10) (by omega) 0
  have t0:=seqT (k + 10) (by omega)
  have t1:=oidT (k + 10) (by omega)
  try simp at F0
  try simp at F1
  have x0:=El.at_ e.fs e.cs [x,y] 0 x rfl
  have x1:=El.at_ e.fs e.cs [x,y] 1 y rfl
  simp [El.avs] at x0 x1
  refine con_of E_fn16 (by simp [AV.pureL,El.av_pure]) (Nat.le_of_ble_eq_true rfl) rfl rfl (g:=[]) ?_
  rw [body_16,c16]
  unfold Ck at C; unfold SqR at S; rw [El.av_eq,hs] at C S
  rw [El.av_eq,hs]
  unfold Og at B
  simp [El.avs] at C S
  simp [↓s_seq,↓s_reg,↓s_cond,↓s_cons,s_nil,s_val,s_skip,s_calls,s_callP,s_cax,s_ret,s_rgx,s_sqn,s_cdb,s_ret',s_skip',s_finr,s_fin1,s_fix,s_clean,o_tmp,o_int,o_bool,l_hit,l_miss,ol_nil,ol_cons,ol_some,x_move,x_assign,x_bin,bn_s,x_extract,x_callF,cl_no,frame0,binA,intOp,resL,resA,results1,sealLW,AV.pure,AV.pureL,keepT,x_alloc,x_box,bxx,x_build,bdx,x_buildSliceF,bsf,x_load,ldx,x_store,stx,x_fieldAddr,x_indexAddr,iax,newK,genOf,setK,lookK,fillA,writeL,writeC,readC,TyI.mk1,fieldAddrA,AV.cells,chunk,gcH,reach,keysT,keepK,inKs,AV.keys,AV.keysL,Ty.isAgg,sc_int,sc_bool,sc_sl,sl_sl,sl_agg,sl_tup,↓s_regD,s_rgy,barOf,dynChk,footL,dynOK,disjK,keysOp,opVals,Op.operands,C,S,B,t0,t1,El.avs,i1,x0,x1]
end A3
