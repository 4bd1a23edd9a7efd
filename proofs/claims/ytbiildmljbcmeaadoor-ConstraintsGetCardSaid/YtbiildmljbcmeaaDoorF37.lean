/- Own work, no conditions. -/
import Derived.Test.YtbiildmljbcmeaaDoorQ14
import Derived.Test.YtbiildmljbcmeaaDoorF10
import Derived.Test.YtbiildmljbcmeaaDoorE40
import Derived.Test.YtbiildmljbcmeaaDoorP5
import Derived.Test.YtbiildmljbcmeaaDoorB40
set_option maxRecDepth 20000
set_option linter.unusedSimpArgs false
set_option linter.unusedVariables false
set_option maxHeartbeats 16000000
section
open Ab Go TabE Sp E34 F1 Rw F5 F6 F7 F8 Q3 Q6 Q7 Q10 Q12 Q13
namespace Q15
abbrev SqR (K:Nat) (e:El) (v:AV):Prop:=∀ c h,aCall E K 0 36 [e.av,.agg [.int .u8 0,.bool true,.int .u32 16],.sl false [.agg [.int .u8 2,.bool false,.int .u32 0,.bool false,.bool true],.agg [.int .u8 2,.bool false,.int .u32 1,.bool false,.bool true]] c] h=some (.ret v,h)
abbrev NbR (K:Nat) (x:El):Prop:=∀ h,aCall E K 0 52 [.sl x.fb (bs x.b) x.cb] h=some (.ret (.tup [.int .i64 (nu x.b).1,.int .i64 (nu x.b).2]),h)
abbrev FtN (K:Nat):Prop:=∀ w h,aCall E K 0 35 [.int .i64 w,.int .i64 (-1)] h=some (.ret (.agg [.sl true [] (some 0),.int .i64 w]),h)
theorem ftN (K:Nat) (hK:10 ≤ K):FtN K:=fun w => rnil w (-1) (by omega) K hK 0
abbrev Ft (K:Nat) (i:Int):Prop:=∀ w h,aCall E K 0 35 [.int .i64 w,.int .i64 i] h=some (.ret (.agg [.sl false [.int .i64 i] none,.int .i64 w]),h)
theorem ft (K:Nat) (hK:10 ≤ K) (i:Int) (hi:0 ≤ i):Ft K i:=fun w => rone w i hi K hK 0
abbrev RR (a b:Int) (p:List Int) (w:Int):AV:=.tup [.agg [.int .i64 a,.int .i64 b],fR p w]
abbrev qo (a b:Int):AV:=.tup [.sl false [.int .i64 a,.int .i64 b] none,.agg [.sl true [] (some 0),.int .i64 0]]
theorem chk (K:Nat) (hK:60 ≤ K) (e:El) (w:Int) (hw:w ≠ 0) (C:Ck K e w):Con E (K + 1) 43 [e.av] (RR 0 0 [] w):=by
  have F:=ftN K (by omega)
  refine con_of E_fn43 (by simp [AV.pureL,El.av_pure]) (Nat.le_of_ble_eq_true rfl) rfl rfl (g:=[]) ?_
  rw [body_43,c43]
  unfold Ck at C; rw [El.av_eq] at C ⊢; unfold FtN at F
  simp [↓s_seq,↓s_reg,↓s_cond,↓s_cons,s_nil,s_val,s_skip,s_calls,s_callP,s_cax,s_ret,s_rgx,s_sqn,s_sqr,s_cdb,s_ret',s_finr,s_fin1,s_fix,s_clean,o_tmp,o_int,l_hit,l_miss,ol_nil,ol_cons,ol_some,x_move,x_assign,x_bin,bn_s,x_callF,cl_no,frame0,binA,intOp,resL,resA,results1,sealLW,AV.pure,AV.pureL,keepT,x_alloc,x_box,bxx,x_load,ldx,x_store,stx,newK,genOf,setK,lookK,writeL,writeC,readC,TyI.mk1,AV.cells,gcH,reach,keysT,keepK,inKs,AV.keys,AV.keysL,Ty.isAgg,sc_int,sc_bool,sc_sl,sl_agg,sl_tup,i_bne,↓s_regD,s_rgy,barOf,dynChk,C,hw,F]
theorem seq (K:Nat) (hK:60 ≤ K) (e:El) (p:List Int) (w:Int) (hw:w ≠ 0) (C:Ck K e 0) (S:SqR K e (.tup [.sl true [] (some 0),fR p w])):Con E (K + 1) 43 [e.av] (RR 0 0 p w):=by
  have np:=ns_pure p
  refine con_of E_fn43 (by simp [AV.pureL,El.av_pure]) (Nat.le_of_ble_eq_true rfl) rfl rfl (g:=[]) ?_
  rw [body_43,c43]
  unfold Ck at C; unfold SqR at S; rw [El.av_eq] at C S
  rw [El.av_eq]
  simp [↓s_seq,↓s_reg,↓s_cond,↓s_cons,s_nil,s_val,s_skip,s_calls,s_cax,s_ret,s_rgx,s_sqn,s_sqr,s_cdb,s_ret',s_skip',s_finr,s_fin1,s_fix,s_clean,o_tmp,o_int,o_bool,l_hit,l_miss,ol_nil,ol_cons,ol_some,x_move,x_assign,x_bin,bn_s,x_extract,x_callF,cl_no,frame0,binA,intOp,resL,resA,results1,sealLW,AV.pure,AV.pureL,keepT,x_alloc,x_box,bxx,x_build,bdx,x_buildSliceF,bsf,x_load,ldx,x_store,stx,x_fieldAddr,newK,genOf,setK,lookK,fillA,writeL,writeC,readC,TyI.mk1,fieldAddrA,AV.cells,chunk,gcH,reach,keysT,keepK,inKs,AV.keys,AV.keysL,Ty.isAgg,sc_int,sc_bool,sc_sl,sl_sl,sl_agg,sl_tup,i_bne,↓s_regD,s_rgy,barOf,dynChk,footL,dynOK,disjK,keysOp,opVals,Op.operands,C,hw,S]
theorem none_ (k:Nat) (hK:60 ≤ k) (e:El) (hs:e.s=[]) (C:Ck (k + 10) e 0) (S:SqR (k + 10) e (qo (-1) (-1))):Con E (k + 10 + 1) 43 [e.av] (RR 0 0 [] 17):=by
  have FN:=ftN (k + 10) (by omega)
  have F0:=ft (k + 10) (by omega) 0 (by omega)
  have F1:=ft (k + 10) (by omega) 1 (by omega)
  refine con_of E_fn43 (by simp [AV.pureL,El.av_pure]) (Nat.le_of_ble_eq_true rfl) rfl rfl (g:=[]) ?_
  rw [body_43,c43]
  unfold Ck at C; unfold SqR at S; rw [El.av_eq,hs] at C S
  rw [El.av_eq,hs]
  unfold FtN at FN; unfold Ft at F0 F1
  simp [El.avs] at C S
  simp [↓s_seq,↓s_reg,↓s_cond,↓s_cons,↓s_consG,s_nil,s_gt,s_wb,s_val,s_skip,s_calls,s_callP,s_cax,s_ret,s_rgx,s_sqn,s_sqr,s_cdb,s_ret',s_skip',s_finr,s_fin1,s_fix,s_clean,o_tmp,o_int,o_bool,l_hit,l_miss,ol_nil,ol_cons,ol_some,x_move,x_assign,x_pick,pk_t,x_bin,bn_s,x_extract,x_callF,cl_no,frame0,binA,intOp,resL,resA,results1,sealLW,AV.pure,AV.pureL,keepT,x_alloc,x_box,bxx,x_build,bdx,x_buildSliceF,bsf,x_load,ldx,x_store,stx,x_fieldAddr,x_indexAddr,iax,newK,genOf,setK,lookK,fillA,writeL,writeC,readC,TyI.mk1,fieldAddrA,AV.cells,chunk,gcH,reach,keysT,keepK,inKs,AV.keys,AV.keysL,Ty.isAgg,sc_int,sc_bool,sc_sl,sl_sl,sl_agg,sl_tup,↓s_regD,s_rgy,barOf,dynChk,C,S,FN,El.avs,i0,i1]
theorem one0 (k:Nat) (hK:60 ≤ k) (e x:El) (hs:e.s=[x]) (C:Ck (k + 10) e 0) (S:SqR (k + 10) e (qo 0 (-1))) (B:NbR (k + 10) x) (hw:(nu x.b).2=0):Con E (k + 10 + 1) 43 [e.av] (RR (nu x.b).1 (-1) [] 0):=by
  have FN:=ftN (k + 10) (by omega)
  have F0:=ft (k + 10) (by omega) 0 (by omega)
  have F1:=ft (k + 10) (by omega) 1 (by omega)
  have x0:=El.at_ e.fs e.cs [x] 0 x rfl
  simp [El.avs] at x0
  refine con_of E_fn43 (by simp [AV.pureL,El.av_pure]) (Nat.le_of_ble_eq_true rfl) rfl rfl (g:=[]) ?_
  rw [body_43,c43]
  unfold Ck at C; unfold SqR at S; rw [El.av_eq,hs] at C S
  rw [El.av_eq,hs]
  unfold FtN at FN; unfold Ft at F0 F1
  unfold NbR at B; rw [hw] at B
  simp [El.avs] at C S
  simp [↓s_seq,↓s_reg,↓s_cond,↓s_cons,↓s_consG,s_nil,s_gf,s_wb,s_val,s_skip,s_calls,s_callP,s_cax,s_ret,s_rgx,s_sqn,s_cdb,s_ret',s_skip',s_finr,s_fin1,s_fix,s_clean,o_tmp,o_int,o_bool,l_hit,l_miss,ol_nil,ol_cons,ol_some,x_move,x_assign,x_pick,pk_f,x_bin,bn_s,x_extract,x_callF,cl_no,frame0,binA,intOp,resL,resA,results1,sealLW,AV.pure,AV.pureL,keepT,x_alloc,x_box,bxx,x_build,bdx,x_buildSliceF,bsf,x_load,ldx,x_store,stx,x_fieldAddr,x_indexAddr,iax,newK,genOf,setK,lookK,fillA,writeL,writeC,readC,TyI.mk1,fieldAddrA,AV.cells,chunk,gcH,reach,keysT,keepK,inKs,AV.keys,AV.keysL,Ty.isAgg,sc_int,sc_bool,sc_sl,sl_sl,sl_agg,sl_tup,↓s_regD,s_rgy,barOf,dynChk,footL,dynOK,disjK,keysOp,opVals,Op.operands,C,S,El.avs,i0,i1,B,x0]
theorem one0b (k:Nat) (hK:60 ≤ k) (e x:El) (hs:e.s=[x]) (C:Ck (k + 10) e 0) (S:SqR (k + 10) e (qo 0 (-1))) (B:NbR (k + 10) x) (hw:(nu x.b).2 ≠ 0):Con E (k + 10 + 1) 43 [e.av] (RR 0 0 [0] (nu x.b).2):=by
  have FN:=ftN (k + 10) (by omega)
  have F0:=ft (k + 10) (by omega) 0 (by omega)
  have F1:=ft (k + 10) (by omega) 1 (by omega)
  have x0:=El.at_ e.fs e.cs [x] 0 x rfl
  simp [El.avs] at x0
  refine con_of E_fn43 (by simp [AV.pureL,El.av_pure]) (Nat.le_of_ble_eq_true rfl) rfl rfl (g:=[]) ?_
  rw [body_43,c43]
  unfold Ck at C; unfold SqR at S; rw [El.av_eq,hs] at C S
  rw [El.av_eq,hs]
  unfold FtN at FN; unfold Ft at F0 F1
  unfold NbR at B
  simp [El.avs] at C S
  simp [↓s_seq,↓s_reg,↓s_cond,↓s_cons,↓s_consG,s_nil,s_gf,s_wb,s_val,s_skip,s_calls,s_callP,s_cax,s_ret,s_rgx,s_sqn,s_sqr,s_cdb,s_ret',s_skip',s_finr,s_fin1,s_fix,s_clean,o_tmp,o_int,o_bool,l_hit,l_miss,ol_nil,ol_cons,ol_some,x_move,x_assign,x_pick,pk_f,x_bin,bn_s,x_extract,x_callF,cl_no,frame0,binA,intOp,resL,resA,results1,sealLW,AV.pure,AV.pureL,keepT,x_alloc,x_box,bxx,x_build,bdx,x_buildSliceF,bsf,x_load,ldx,x_store,stx,x_fieldAddr,x_indexAddr,iax,newK,genOf,setK,lookK,fillA,writeL,writeC,readC,TyI.mk1,fieldAddrA,AV.cells,chunk,gcH,reach,keysT,keepK,inKs,AV.keys,AV.keysL,Ty.isAgg,sc_int,sc_bool,sc_sl,sl_sl,sl_agg,sl_tup,i_bne,↓s_regD,s_rgy,barOf,dynChk,C,S,F0,El.avs,i0,B,hw,x0]
theorem one1 (k:Nat) (hK:60 ≤ k) (e x:El) (hs:e.s=[x]) (C:Ck (k + 10) e 0) (S:SqR (k + 10) e (qo (-1) 0)) (B:NbR (k + 10) x) (hw:(nu x.b).2=0):Con E (k + 10 + 1) 43 [e.av] (RR (-1) (nu x.b).1 [] 0):=by
  have FN:=ftN (k + 10) (by omega)
  have F0:=ft (k + 10) (by omega) 0 (by omega)
  have F1:=ft (k + 10) (by omega) 1 (by omega)
  have x0:=El.at_ e.fs e.cs [x] 0 x rfl
  simp [El.avs] at x0
  refine con_of E_fn43 (by simp [AV.pureL,El.av_pure]) (Nat.le_of_ble_eq_true rfl) rfl rfl (g:=[]) ?_
  rw [body_43,c43]
  unfold Ck at C; unfold SqR at S; rw [El.av_eq,hs] at C S
  rw [El.av_eq,hs]
  unfold FtN at FN; unfold Ft at F0 F1
  unfold NbR at B; rw [hw] at B
  simp [El.avs] at C S
  simp [↓s_seq,↓s_reg,↓s_cond,↓s_cons,↓s_consG,s_nil,s_gt,s_wb,s_val,s_skip,s_calls,s_callP,s_cax,s_ret,s_rgx,s_sqn,s_cdb,s_ret',s_skip',s_finr,s_fin1,s_fix,s_clean,o_tmp,o_int,o_bool,l_hit,l_miss,ol_nil,ol_cons,ol_some,x_move,x_assign,x_pick,pk_t,x_bin,bn_s,x_extract,x_callF,cl_no,frame0,binA,intOp,resL,resA,results1,sealLW,AV.pure,AV.pureL,keepT,x_alloc,x_box,bxx,x_build,bdx,x_buildSliceF,bsf,x_load,ldx,x_store,stx,x_fieldAddr,x_indexAddr,iax,newK,genOf,setK,lookK,fillA,writeL,writeC,readC,TyI.mk1,fieldAddrA,AV.cells,chunk,gcH,reach,keysT,keepK,inKs,AV.keys,AV.keysL,Ty.isAgg,sc_int,sc_bool,sc_sl,sl_sl,sl_agg,sl_tup,↓s_regD,s_rgy,barOf,dynChk,footL,dynOK,disjK,keysOp,opVals,Op.operands,C,S,El.avs,i0,i1,B,x0]
theorem one1b (k:Nat) (hK:60 ≤ k) (e x:El) (hs:e.s=[x]) (C:Ck (k + 10) e 0) (S:SqR (k + 10) e (qo (-1) 0)) (B:NbR (k + 10) x) (hw:(nu x.b).2 ≠ 0):Con E (k + 10 + 1) 43 [e.av] (RR 0 0 [0] (nu x.b).2):=by
  have FN:=ftN (k + 10) (by omega)
  have F0:=ft (k + 10) (by omega) 0 (by omega)
  have F1:=ft (k + 10) (by omega) 1 (by omega)
  have x0:=El.at_ e.fs e.cs [x] 0 x rfl
  simp [El.avs] at x0
  refine con_of E_fn43 (by simp [AV.pureL,El.av_pure]) (Nat.le_of_ble_eq_true rfl) rfl rfl (g:=[]) ?_
  rw [body_43,c43]
  unfold Ck at C; unfold SqR at S; rw [El.av_eq,hs] at C S
  rw [El.av_eq,hs]
  unfold FtN at FN; unfold Ft at F0 F1
  unfold NbR at B
  simp [El.avs] at C S
  simp [↓s_seq,↓s_reg,↓s_cond,↓s_cons,↓s_consG,s_nil,s_gt,s_wb,s_val,s_skip,s_calls,s_callP,s_cax,s_ret,s_rgx,s_sqn,s_sqr,s_cdb,s_ret',s_skip',s_finr,s_fin1,s_fix,s_clean,o_tmp,o_int,o_bool,l_hit,l_miss,ol_nil,ol_cons,ol_some,x_move,x_assign,x_pick,pk_t,x_bin,bn_s,x_extract,x_callF,cl_no,frame0,binA,intOp,resL,resA,results1,sealLW,AV.pure,AV.pureL,keepT,x_alloc,x_box,bxx,x_build,bdx,x_buildSliceF,bsf,x_load,ldx,x_store,stx,x_fieldAddr,x_indexAddr,iax,newK,genOf,setK,lookK,fillA,writeL,writeC,readC,TyI.mk1,fieldAddrA,AV.cells,chunk,gcH,reach,keysT,keepK,inKs,AV.keys,AV.keysL,Ty.isAgg,sc_int,sc_bool,sc_sl,sl_sl,sl_agg,sl_tup,i_bne,↓s_regD,s_rgy,barOf,dynChk,C,S,F0,El.avs,i0,i1,B,hw,x0]
theorem two (k:Nat) (hK:60 ≤ k) (e x y:El) (hs:e.s=[x,y]) (C:Ck (k + 10) e 0) (S:SqR (k + 10) e (qo 0 1)) (B:NbR (k + 10) x) (B':NbR (k + 10) y) (hw:(nu x.b).2=0) (hw':(nu y.b).2=0):Con E (k + 10 + 1) 43 [e.av] (RR (nu x.b).1 (nu y.b).1 [] 0):=by
  have FN:=ftN (k + 10) (by omega)
  have F0:=ft (k + 10) (by omega) 0 (by omega)
  have F1:=ft (k + 10) (by omega) 1 (by omega)
  have x0:=El.at_ e.fs e.cs [x,y] 0 x rfl
  have x1:=El.at_ e.fs e.cs [x,y] 1 y rfl
  simp [El.avs] at x0 x1
  refine con_of E_fn43 (by simp [AV.pureL,El.av_pure]) (Nat.le_of_ble_eq_true rfl) rfl rfl (g:=[]) ?_
  rw [body_43,c43]
  unfold Ck at C; unfold SqR at S; rw [El.av_eq,hs] at C S
  rw [El.av_eq,hs]
  unfold FtN at FN; unfold Ft at F0 F1
  unfold NbR at B B'; rw [hw] at B; rw [hw'] at B'
  simp [El.avs] at C S
  simp [↓s_seq,↓s_reg,↓s_cond,↓s_cons,↓s_consG,s_nil,s_gf,s_wb,s_val,s_skip,s_calls,s_callP,s_cax,s_ret,s_rgx,s_sqn,s_cdb,s_ret',s_skip',s_finr,s_fin1,s_fix,s_clean,o_tmp,o_int,o_bool,l_hit,l_miss,ol_nil,ol_cons,ol_some,x_move,x_assign,x_pick,pk_f,x_bin,bn_s,x_extract,x_callF,cl_no,frame0,binA,intOp,resL,resA,results1,sealLW,AV.pure,AV.pureL,keepT,x_alloc,x_box,bxx,x_build,bdx,x_buildSliceF,bsf,x_load,ldx,x_store,stx,x_fieldAddr,x_indexAddr,iax,newK,genOf,setK,lookK,fillA,writeL,writeC,readC,TyI.mk1,fieldAddrA,AV.cells,chunk,gcH,reach,keysT,keepK,inKs,AV.keys,AV.keysL,Ty.isAgg,sc_int,sc_bool,sc_sl,sl_sl,sl_agg,sl_tup,↓s_regD,s_rgy,barOf,dynChk,footL,dynOK,disjK,keysOp,opVals,Op.operands,C,S,El.avs,i0,i1,B,B',x0,x1]
theorem twoA (k:Nat) (hK:60 ≤ k) (e x y:El) (hs:e.s=[x,y]) (C:Ck (k + 10) e 0) (S:SqR (k + 10) e (qo 0 1)) (B:NbR (k + 10) x) (hw:(nu x.b).2 ≠ 0):Con E (k + 10 + 1) 43 [e.av] (RR 0 0 [0] (nu x.b).2):=by
  have FN:=ftN (k + 10) (by omega)
  have F0:=ft (k + 10) (by omega) 0 (by omega)
  have F1:=ft (k + 10) (by omega) 1 (by omega)
  have x0:=El.at_ e.fs e.cs [x,y] 0 x rfl
  have x1:=El.at_ e.fs e.cs [x,y] 1 y rfl
  simp [El.avs] at x0 x1
  refine con_of E_fn43 (by simp [AV.pureL,El.av_pure]) (Nat.le_of_ble_eq_true rfl) rfl rfl (g:=[]) ?_
  rw [body_43,c43]
  unfold Ck at C; unfold SqR at S; rw [El.av_eq,hs] at C S
  rw [El.av_eq,hs]
  unfold FtN at FN; unfold Ft at F0 F1
  unfold NbR at B
  simp [El.avs] at C S
  simp [↓s_seq,↓s_reg,↓s_cond,↓s_cons,↓s_consG,s_nil,s_gf,s_wb,s_val,s_skip,s_calls,s_callP,s_cax,s_ret,s_rgx,s_sqn,s_sqr,s_cdb,s_ret',s_skip',s_finr,s_fin1,s_fix,s_clean,o_tmp,o_int,o_bool,l_hit,l_miss,ol_nil,ol_cons,ol_some,x_move,x_assign,x_pick,pk_f,x_bin,bn_s,x_extract,x_callF,cl_no,frame0,binA,intOp,resL,resA,results1,sealLW,AV.pure,AV.pureL,keepT,x_alloc,x_box,bxx,x_build,bdx,x_buildSliceF,bsf,x_load,ldx,x_store,stx,x_fieldAddr,x_indexAddr,iax,newK,genOf,setK,lookK,fillA,writeL,writeC,readC,TyI.mk1,fieldAddrA,AV.cells,chunk,gcH,reach,keysT,keepK,inKs,AV.keys,AV.keysL,Ty.isAgg,sc_int,sc_bool,sc_sl,sl_sl,sl_agg,sl_tup,i_bne,↓s_regD,s_rgy,barOf,dynChk,C,S,F0,El.avs,i0,B,hw,x0]
theorem twoB (k:Nat) (hK:60 ≤ k) (e x y:El) (hs:e.s=[x,y]) (C:Ck (k + 10) e 0) (S:SqR (k + 10) e (qo 0 1)) (B:NbR (k + 10) x) (B':NbR (k + 10) y) (hw:(nu x.b).2=0) (hw':(nu y.b).2 ≠ 0):Con E (k + 10 + 1) 43 [e.av] (RR 0 0 [1] (nu y.b).2):=by
  have FN:=ftN (k + 10) (by omega)
  have F0:=ft (k + 10) (by omega) 0 (by omega)
  have F1:=ft (k + 10) (by omega) 1 (by omega)
  have x0:=El.at_ e.fs e.cs [x,y] 0 x rfl
  have x1:=El.at_ e.fs e.cs [x,y] 1 y rfl
  simp [El.avs] at x0 x1
  refine con_of E_fn43 (by simp [AV.pureL,El.av_pure]) (Nat.le_of_ble_eq_true rfl) rfl rfl (g:=[]) ?_
  rw [body_43,c43]
  unfold Ck at C; unfold SqR at S; rw [El.av_eq,hs] at C S
  rw [El.av_eq,hs]
  unfold FtN at FN; unfold Ft at F0 F1
  unfold NbR at B B'; rw [hw] at B
  simp [El.avs] at C S
  simp [↓s_seq,↓s_reg,↓s_cond,↓s_cons,↓s_consG,s_nil,s_gf,s_wb,s_val,s_skip,s_calls,s_callP,s_cax,s_ret,s_rgx,s_sqn,s_sqr,s_cdb,s_ret',s_skip',s_finr,s_fin1,s_fix,s_clean,o_tmp,o_int,o_bool,l_hit,l_miss,ol_nil,ol_cons,ol_some,x_move,x_assign,x_pick,pk_f,x_bin,bn_s,x_extract,x_callF,cl_no,frame0,binA,intOp,resL,resA,results1,sealLW,AV.pure,AV.pureL,keepT,x_alloc,x_box,bxx,x_build,bdx,x_buildSliceF,bsf,x_load,ldx,x_store,stx,x_fieldAddr,x_indexAddr,iax,newK,genOf,setK,lookK,fillA,writeL,writeC,readC,TyI.mk1,fieldAddrA,AV.cells,chunk,gcH,reach,keysT,keepK,inKs,AV.keys,AV.keysL,Ty.isAgg,sc_int,sc_bool,sc_sl,sl_sl,sl_agg,sl_tup,i_bne,↓s_regD,s_rgy,barOf,dynChk,C,S,F1,El.avs,i0,i1,B,B',hw',x0,x1]
end Q15
end
section
open Ab Go TabE Sp E34 F1 Rw F5 F6 F7 F8 Q3 Q6 Q7 Q10 Q12 Q13
namespace Q16
abbrev lf (i:Int) (b:List Int):El:=.mk 2 false i false b (some b.length) true [] (some 0)
abbrev tp (s:List El) (n:Nat):El:=.mk 0 true 16 true [] (some 0) false s (some n)
def Bk (e:El) (a b:Int):Prop:=QB.chkI a b=0 ∧ ∃ y:El,y.core=e.core ∧ y.ok ∧ Con E 60 45 [.agg [.int .i64 a,.int .i64 b]] (.tup [y.av,.int .i64 0])
theorem lf_core (x:El) (i n:Int) (hv:vld x.core) (hb:isB x.b) (h:x.c=2 ∧ x.k=false ∧ x.n=i) (hn:nu x.b=(n,0)):(lf i (pI n)).core=x.core:=by
  have p:=(back x.b hb n hn).2
  rw [vld_eq] at hv
  have s0:=hv.2.2.1 h.2.1
  rw [El.core_eq,El.core_eq x,h.1,h.2.1,h.2.2,s0,← p]
  rfl
theorem pI_B (x:El) (hb:isB x.b) (n:Int) (hn:nu x.b=(n,0)):isB (pI n) ∧ (pI n).length ≤ 4:=by
  refine ⟨by rw [(back x.b hb n hn).2]; exact hb,?_⟩
  unfold pI; split <;> (try split) <;> (try split) <;> simp
theorem lf_ok (x:El) (i n:Int) (hb:isB x.b) (hn:nu x.b=(n,0)) (h0:0 ≤ i) (h1:i < 4294967296):(lf i (pI n)).ok:=by
  have q:=pI_B x hb n hn
  rw [El.ok_eq]
  exact ⟨by simp [El.c],by simp [El.n]; omega,q.1,by simp only [El.b]; omega,by simp [El.s],fun y hy => by cases hy⟩
theorem tp_ok (s:List El) (n:Nat) (h:∀ x ∈ s,x.ok) (hl:s.length ≤ 2):(tp s n).ok:=by
  rw [El.ok_eq]
  exact ⟨by simp [El.c],by simp [El.n],by simp [El.b,isB],by simp [El.b],by simp only [El.s]; omega,h⟩
theorem nu0 {x:El} (h:(nu x.b).2=0):nu x.b=((nu x.b).1,0):=by rw [← h]
theorem chkI_a (a:Int) (h:0 ≤ a ∧ a ≤ 2147483647):QB.chkI a (-1)=0:=by unfold QB.chkI; rw [if_neg (by omega),if_neg (by omega),if_neg (by omega)]
theorem chkI_b (b:Int) (h:0 ≤ b ∧ b ≤ 2147483647):QB.chkI (-1) b=0:=by unfold QB.chkI; rw [if_neg (by omega),if_neg (by omega),if_neg (by omega)]
theorem chkI_ab (a b:Int) (h:0 ≤ a ∧ a ≤ 2147483647) (h2:0 ≤ b ∧ b ≤ 2147483647):QB.chkI a b=0:=by unfold QB.chkI; rw [if_neg (by omega),if_neg (by omega),if_neg (by omega)]
theorem core_of (e:El) (hv:vld e.core) (ht:e.c=0 ∧ e.k=true ∧ e.n=16) (s:List El) (n:Nat) (h:El.cores s=El.cores e.s):(tp s n).core=e.core:=by
  rw [vld_eq] at hv
  have b0:=hv.2.1 ht.2.1
  rw [El.core_eq,El.core_eq e,ht.1,ht.2.1,ht.2.2,b0,← h]; rfl
theorem sqr_walk (s:List El):∀ (r:List Fld) (j:Nat) (o:List Int) (e:Int) (p:List Int),sqr s r j o=.inr (e,p) → p=[] ∨ ∃ (n:Nat) (y:El),p=[(n:Int)] ∧ s[n]? = some y
  | [],j,o,e,p,h => by unfold sqr at h; cases h
  | x :: r,j,o,e,p,h => by
    unfold sqr at h
    cases hy:s[j]? with
    | none =>
      rw [hy] at h
      simp only at h
      split at h
      · exact sqr_walk s r j _ e p h
      · cases h; exact .inl rfl
    | some y =>
      rw [hy] at h
      simp only at h
      split at h
      · exact sqr_walk s r _ _ e p h
      · split at h
        · exact sqr_walk s r _ _ e p h
        · cases h; exact .inr ⟨j,y,rfl,hy⟩
theorem sq_walk {e:El} {t:Int × Bool × Int} {l:List Fld} {er:Int} {p:List Int} (h:sq e t l=.inr (er,p)):∃ x,E34.walk e p=some x:=by
  have key:p=[] ∨ ∃ (n:Nat) (y:El),p=[(n:Int)] ∧ e.s[n]? = some y:=by
    unfold sq at h
    split at h
    · cases h; exact .inl rfl
    split at h
    · cases h; exact .inl rfl
    cases hq:sqr e.s l 0 [] with
    | inr q => rw [hq] at h; cases h; exact sqr_walk e.s l 0 [] er p hq
    | inl q =>
      obtain ⟨o,j⟩:=q
      rw [hq] at h
      simp only at h
      split at h
      · rename_i hj
        cases h; exact .inr ⟨j,e.s[j],rfl,List.getElem?_eq_getElem hj⟩
      · cases h
  rcases key with rfl | ⟨n,y,rfl,hy⟩
  · exact ⟨e,rfl⟩
  · exact ⟨y,by unfold E34.walk; rw [if_neg (by omega),Int.toNat_natCast,hy]; rfl⟩
theorem both (e:El) (he:e.ok) (hl:e.s.length ≤ 1000) (hb:∀ x ∈ e.s,x.b.length ≤ 100000000):∃ N a b p w,Con E N 42 [e.av] (R a b p w) ∧ Con E N 43 [e.av] (Q15.RR a b p w) ∧ p.length ≤ 1 ∧ (w=0 → p=[] ∧ Bk e a b) ∧ (w ≠ 0 → a=0 ∧ b=0) ∧ (chk e.core 1 0 0).1=0 ∧ (∃ x,E34.walk e p=some x) ∨ (Con E N 42 [e.av] (R 0 0 [] (chk e.core 1 0 0).1) ∧ Con E N 43 [e.av] (Q15.RR 0 0 [] (chk e.core 1 0 0).1) ∧ (chk e.core 1 0 0).1 ≠ 0):=by
  obtain ⟨N0,C0⟩:=E10.check e he
  obtain ⟨k,hk⟩:∃ k,N0 + 60=k:=⟨_,rfl⟩
  have C:Ck (k + 10) e (chk e.core 1 0 0).1:=C0 (k + 10) (by omega) 0
  have S:=fun c => F8.sequence false c l2 e tS (by omega) (by simp) (k + 10) (by simp; omega) 0
  have S':=fun c => F10.rsequence false c l2 e tS (by omega) (by simp) (k + 10) (by simp; omega) 0
  simp only [List.map,Fld.av,Fld.cells,tS] at S S'
  by_cases h0:(chk e.core 1 0 0).1=0
  case neg => exact ⟨k + 10 + 1,0,0,[],(chk e.core 1 0 0).1,.inr ⟨Q13.chk (k + 10) e _ h0 C,Q15.chk (k + 10) (by omega) e _ h0 C,h0⟩⟩
  have hv:=vld_of _ _ _ _ h0
  rw [h0] at C
  have hvs:∀ x ∈ e.s,vld x.core:=by rw [vld_eq] at hv; exact vlds_all.1 hv.2.2.2
  have hB:∀ x ∈ e.s,isB x.b:=fun x hx => (he.sub x hx).bb
  have NB:∀ x ∈ e.s,Nb (k + 10) x:=fun x hx => Q11.number x.fb x.cb x.b (fun y hy => hB x hx y hy) (hb x hx) (k + 10) (by omega) 0
  have NR:∀ x ∈ e.s,Q15.NbR (k + 10) x:=fun x hx => number19 x.fb x.cb x.b (fun y hy => hB x hx y hy) (hb x hx) (k + 10) (by omega) 0
  cases hq:sq e tS l2 with
  | inr q =>
    obtain ⟨er,p⟩:=q
    rw [hq] at S S'
    have hbad:=F11.sq_bad hq
    have pe:=sq_walk hq
    exact ⟨k + 10 + 1,0,0,p,er,.inl ⟨Q13.seq (k + 10) (by omega) e p er hbad.1 C S,Q15.seq (k + 10) (by omega) e p er hbad.1 C S',by have:=hbad.2; omega,fun h => absurd h hbad.1,fun _ => ⟨rfl,rfl⟩,h0,pe⟩⟩
  | inl o =>
    rw [hq] at S S'
    obtain ⟨ht,c5⟩:=cases5 e o hq
    rcases c5 with ⟨hs,rfl⟩ | ⟨x,hs,rfl,hx⟩ | ⟨x,hs,rfl,hx⟩ | ⟨x,y,hs,rfl,hx,hy⟩
    · exact ⟨k + 10 + 1,0,0,[],17,.inl ⟨Q14.none_ k (by omega) e hs C S,Q15.none_ k (by omega) e hs C S',by simp,(fun h => absurd h (by decide)),fun _ => ⟨rfl,rfl⟩,h0,e,rfl⟩⟩
    · have mx:x ∈ e.s:=by rw [hs]; simp
      by_cases w:(nu x.b).2=0
      · have n0:=nu0 w
        have rg:=(back x.b (hB x mx) _ n0).1
        refine ⟨k + 10 + 1,(nu x.b).1,-1,[],0,.inl ⟨Q14.one0 k (by omega) e x hs C S (NB x mx) w,Q15.one0 k (by omega) e x hs C S' (NR x mx) w,by simp,fun _ => ⟨rfl,chkI_a _ rg,tp [lf 0 (pI (nu x.b).1)] 1,?_,?_,?_⟩,fun h => absurd rfl h,h0,e,rfl⟩⟩
        · exact core_of e hv ht _ _ (by rw [hs,El.cores_map,El.cores_map]; simp [lf_core x 0 _ (hvs x mx) (hB x mx) hx n0])
        · exact tp_ok _ _ (fun z hz => by rw [List.mem_singleton.1 hz]; exact lf_ok x 0 _ (hB x mx) n0 (by omega) (by omega)) (by simp)
        · exact QC.elem_a _ (chkI_a _ rg) (by omega) _ _ (putI _ rg.1 rg.2) (bs_pure _)
      · exact ⟨k + 10 + 1,0,0,[0],(nu x.b).2,.inl ⟨Q14.one0b k (by omega) e x hs C S (NB x mx) w,Q15.one0b k (by omega) e x hs C S' (NR x mx) w,by simp,fun h => absurd h w,fun _ => ⟨rfl,rfl⟩,h0,x,by simp [E34.walk,hs]⟩⟩
    · have mx:x ∈ e.s:=by rw [hs]; simp
      by_cases w:(nu x.b).2=0
      · have n0:=nu0 w
        have rg:=(back x.b (hB x mx) _ n0).1
        refine ⟨k + 10 + 1,-1,(nu x.b).1,[],0,.inl ⟨Q14.one1 k (by omega) e x hs C S (NB x mx) w,Q15.one1 k (by omega) e x hs C S' (NR x mx) w,by simp,fun _ => ⟨rfl,chkI_b _ rg,tp [lf 1 (pI (nu x.b).1)] 1,?_,?_,?_⟩,fun h => absurd rfl h,h0,e,rfl⟩⟩
        · exact core_of e hv ht _ _ (by rw [hs,El.cores_map,El.cores_map]; simp [lf_core x 1 _ (hvs x mx) (hB x mx) hx n0])
        · exact tp_ok _ _ (fun z hz => by rw [List.mem_singleton.1 hz]; exact lf_ok x 1 _ (hB x mx) n0 (by omega) (by omega)) (by simp)
        · exact QC.elem_b _ (chkI_b _ rg) (by omega) _ _ (putI _ rg.1 rg.2) (bs_pure _)
      · exact ⟨k + 10 + 1,0,0,[0],(nu x.b).2,.inl ⟨Q14.one1b k (by omega) e x hs C S (NB x mx) w,Q15.one1b k (by omega) e x hs C S' (NR x mx) w,by simp,fun h => absurd h w,fun _ => ⟨rfl,rfl⟩,h0,x,by simp [E34.walk,hs]⟩⟩
    · have mx:x ∈ e.s:=by rw [hs]; simp
      have my:y ∈ e.s:=by rw [hs]; simp
      by_cases w:(nu x.b).2=0
      · have n0:=nu0 w
        have rg:=(back x.b (hB x mx) _ n0).1
        by_cases w':(nu y.b).2=0
        · have n1:=nu0 w'
          have rg':=(back y.b (hB y my) _ n1).1
          refine ⟨k + 10 + 1,(nu x.b).1,(nu y.b).1,[],0,.inl ⟨Q14.two k (by omega) e x y hs C S (NB x mx) (NB y my) w w',Q15.two k (by omega) e x y hs C S' (NR x mx) (NR y my) w w',by simp,fun _ => ⟨rfl,chkI_ab _ _ rg rg',tp [lf 0 (pI (nu x.b).1),lf 1 (pI (nu y.b).1)] 2,?_,?_,?_⟩,fun h => absurd rfl h,h0,e,rfl⟩⟩
          · exact core_of e hv ht _ _ (by rw [hs,El.cores_map,El.cores_map]; simp [lf_core x 0 _ (hvs x mx) (hB x mx) hx n0,lf_core y 1 _ (hvs y my) (hB y my) hy n1])
          · exact tp_ok _ _ (fun z hz => by
              rcases List.mem_cons.1 hz with rfl | hz
              · exact lf_ok x 0 _ (hB x mx) n0 (by omega) (by omega)
              · rw [List.mem_singleton.1 hz]; exact lf_ok y 1 _ (hB y my) n1 (by omega) (by omega)) (by simp)
          · exact QC.elem_ab _ _ (chkI_ab _ _ rg rg') (by omega) (by omega) _ _ _ _ (putI _ rg.1 rg.2) (putI _ rg'.1 rg'.2) (bs_pure _) (bs_pure _)
        · exact ⟨k + 10 + 1,0,0,[1],(nu y.b).2,.inl ⟨Q14.twoB k (by omega) e x y hs C S (NB x mx) (NB y my) w w',Q15.twoB k (by omega) e x y hs C S' (NR x mx) (NR y my) w w',by simp,fun h => absurd h w',fun _ => ⟨rfl,rfl⟩,h0,y,by simp [E34.walk,hs]⟩⟩
      · exact ⟨k + 10 + 1,0,0,[0],(nu x.b).2,.inl ⟨Q14.twoA k (by omega) e x y hs C S (NB x mx) w,Q15.twoA k (by omega) e x y hs C S' (NR x mx) w,by simp,fun h => absurd h w,fun _ => ⟨rfl,rfl⟩,h0,x,by simp [E34.walk,hs]⟩⟩
end Q16
end
section
open Ab Go TabE Sp
namespace FW
mutual
def few (B S:Nat):Cr → Int → Int → Int × Int
  | .mk _ _ _ b s,l,d => if l - 1 < 0 ∨ 20 < d ∨ B < b.length ∨ S < s.length then (0,l - 1) else fews B S s (l - 1) d
def fews (B S:Nat):List Cr → Int → Int → Int × Int
  | [],l,_ => (1,l)
  | x :: r,l,d => if (few B S x l (d + 1)).1=0 then (0,(few B S x l (d + 1)).2) else fews B S r (few B S x l (d + 1)).2 d
end
mutual
theorem few_le:∀ (c:Cr) (B S:Nat) (l d:Int),(few B S c l d).2 ≤ l
  | .mk _ _ _ b s,B,S,l,d => by
    unfold few
    split
    · simp only; omega
    · have:=fews_le s B S (l - 1) d; omega
theorem fews_le:∀ (s:List Cr) (B S:Nat) (l d:Int),(fews B S s l d).2 ≤ l
  | [],B,S,l,d => by unfold fews; simp
  | x :: r,B,S,l,d => by
    unfold fews
    have a:=few_le x B S l (d + 1)
    split
    · exact a
    · have:=fews_le r B S (few B S x l (d + 1)).2 d; omega
end
mutual
theorem few_ok:∀ (c:Cr) (B S:Nat) (l d:Int),(few B S c l d).1 ≠ 0 → 0 ≤ (few B S c l d).2 ∧ (few B S c l d).2=l - cnt c ∧ d + dep c ≤ 21 ∧ (few B S c l d).1=1
  | .mk _ _ _ b s,B,S,l,d,h => by
    unfold few at h ⊢
    unfold cnt dep
    split at h
    · exact absurd rfl h
    · rename_i hc
      rw [if_neg hc]
      obtain ⟨h1,h2,h3,h4⟩:=fews_ok s B S (l - 1) d (by omega) (by omega) h
      exact ⟨h1,by omega,by omega,h4⟩
theorem fews_ok:∀ (s:List Cr) (B S:Nat) (l d:Int),0 ≤ l → d ≤ 20 → (fews B S s l d).1 ≠ 0 → 0 ≤ (fews B S s l d).2 ∧ (fews B S s l d).2=l - cnts s ∧ d + deps s ≤ 20 ∧ (fews B S s l d).1=1
  | [],B,S,l,d,h0,hd,h => by unfold fews cnts deps; simp; omega
  | x :: r,B,S,l,d,h0,hd,h => by
    unfold fews at h ⊢
    unfold cnts deps
    split at h
    · exact absurd rfl h
    · rename_i hc
      rw [if_neg hc]
      obtain ⟨a1,a2,a3,a4⟩:=few_ok x B S l (d + 1) hc
      obtain ⟨b1,b2,b3,b4⟩:=fews_ok r B S (few B S x l (d + 1)).2 d a1 hd h
      have:=deps_pos r
      have:=dep_pos x
      exact ⟨b1,by omega,by omega,b4⟩
end
inductive Fe (B S:Nat):El → Prop
  | mk (e:El):e.b.length ≤ B → e.s.length ≤ S → (∀ x ∈ e.s,Fe B S x) → Fe B S e
theorem fe_all (B S:Nat):∀ (r:List El) (l d:Int),(fews B S (El.cores r) l d).1 ≠ 0 → (∀ x ∈ r,∀ l d,(few B S x.core l d).1 ≠ 0 → Fe B S x) → ∀ x ∈ r,Fe B S x
  | [],l,d,h,ih,x,hx => by cases hx
  | y :: r,l,d,h,ih,x,hx => by
    rw [El.cores] at h
    unfold fews at h
    split at h
    · exact absurd rfl h
    · rename_i hc
      rcases List.mem_cons.1 hx with rfl | hx
      · exact ih x (by simp) _ _ hc
      · exact fe_all B S r _ _ h (fun z hz => ih z (by simp [hz])) x hx
theorem few_fe (B S:Nat):∀ (e:El) (l d:Int),(few B S e.core l d).1 ≠ 0 → Fe B S e:=by
  refine El.ind fun e ih l d h => ?_
  rw [El.core_eq e] at h
  unfold few at h
  have cl:(El.cores e.s).length=e.s.length:=by rw [El.cores_map,List.length_map]
  rw [cl] at h
  split at h
  · exact absurd rfl h
  · rename_i hc
    exact .mk e (by omega) (by omega) (fe_all B S e.s _ _ h ih)
end FW
end
section
open Ab Go TabE
attribute [local simp ↓] s_seq s_reg s_regd s_cond s_block s_cons s_consG s_regD
attribute [local simp] s_nil s_loop s_round s_lpn s_lpe s_lpr firstReg s_gt s_gf s_wb s_wu s_val s_valN s_skip s_calls s_callP s_cax lookR flatR pureKs s_ret s_rgx s_sqn s_sqr s_sqe s_cdb s_bkn s_bkr s_bke s_exit s_ret' s_skip' s_finr s_finn s_fin1 s_fix s_clean s_gc0 o_tmp o_int o_bool o_nil o_str o_fn o_nil' l_hit l_miss l_nil ol_nil ol_cons ol_some x_move x_assign x_pick pk_t pk_f x_bin bn_s x_un x_extract x_callF cl_no x_callB x_callBF frzV x_conv cvx convA frame0 binA intOp resL resA results1 sealLW AV.pure AV.pureL keepT x_alloc x_box bxx x_build bdx x_buildSlice bsx x_buildSliceF bsf x_load ldx x_store stx x_slice slx x_fieldAddr x_field x_index ixx x_indexAddr iax x_makeSlice msx x_makeSliceF msf x_nilCheck newK genOf setK lookK fillA writeL writeC readC conts TyI.mk1 sliceA boundsA boundsB fitsA numA indexAddrA fieldAddrA partA fieldA indexA appendA copyA builtinA AV.cells chunk gcH reach keysT keepK inKs AV.keys AV.keysL Ty.isAgg eq1 eqL convA.go ltI w_u8 w_u32 w_u64 w_i64 w_fdiv w_tdiv w_tmod IntKind.bits unA sc_int sc_bool sc_str sc_sl sc_ref sc_ptr sc_pel sc_nilp sc_fn sc_nilf sc_if sc_nili sc_agg sc_tup sc_mem bs_pure bs_kl bs_length bs_cells bs_all sl_row sealRow sealY sl_int sl_bool sl_str sl_sl sl_nilp sl_nilf sl_nili sl_pel sl_agg sl_tup sl_fn sl_if nat_1 bs_cons bs_nil i_beq i_bne x_mkF x_mkI x_tassert x_panic s_pan s_sqp s_bkp s_finp s_fixp s_lpp s_rgp s_retp s_site s_stxN s_stxO x_callT clx El.avs_len s_dyn0 s_rgy barOf dynChk footL dynOK disjK keysOp opVals Op.operands
section
open Ab Go TabE Sp FW
namespace Q1
theorem op {run:RunF} {slot:Nat} {cs:List AV} {d l r l':Int} {own:Heap} (hp:AV.pureL cs=true)
    (hr:run 40 [.agg cs,.ptr (0,0,0) 0,.int .i64 d] [((0,0,0),bx [.int .i64 l])]=some (.ret (.int .i64 r),[((0,0,0),bx [.int .i64 l'])])) :
    opened [false,true,false] true run slot 40 [.agg cs,.ptr (0,0,0) 0,.int .i64 d] (((0,0,0),bx [.int .i64 l]) :: own)=some (.ret (.int .i64 r),((0,0,0),bx [.int .i64 l']) :: own):=by
  have e1:∀ h,sealM (sealA 20) [false,true,false] h [.agg cs,.ptr (0,0,0) 0,.int .i64 d]=some ([.agg cs,.ptr (0,0,0) 0,.int .i64 d],h):=fun h => by
    simp [sealM,sl_agg,sl_int,hp]
  have k1:AV.keysL cs=[]:=AV.keysL_pure _ hp
  have r1:∀ φ,AV.rnL φ cs=cs:=fun φ => rnL_pure cs hp
  unfold opened
  rw [e1]
  have e2:AV.keysL [.agg cs,.ptr (0,0,0) 0,.int .i64 d]=[(0,0,0)]:=by simp [AV.keysL,AV.keys,k1]
  simp only [e2]
  have e3:dd (reach (((0,0,0),bx [.int .i64 l]) :: own) 3 [(0,0,0)])=[(0,0,0)]:=by kernel_rfl
  rw [e3]
  unfold lendA
  have e4:lendH (((0,0,0),bx [.int .i64 l]) :: own) (inK [(0,0,0)]) [(0,0,0)]=some [((0,0,0),bx [.int .i64 l])]:=by kernel_rfl
  rw [e4]
  simp only [e2]
  rw [if_pos ⟨by kernel_rfl,by kernel_rfl⟩]
  have e5:AV.rnL (inK [(0,0,0)]) [.agg cs,.ptr (0,0,0) 0,.int .i64 d]=[.agg cs,.ptr (0,0,0) 0,.int .i64 d]:=by simp [AV.rnL,AV.rn,r1]; rfl
  rw [e5,hr]
  show backR [(0,0,0)] slot (((0,0,0),bx [.int .i64 l]) :: own) true (some (.ret (.int .i64 r),[((0,0,0),bx [.int .i64 l'])]))=some (.ret (.int .i64 r),((0,0,0),bx [.int .i64 l']) :: own)
  kernel_rfl
def b:Code:=lp c40 0
abbrev S (e:El) (d:Int) (i:Nat) (l:Int):St:=⟨[(1,.ptr (0,0,0) 0),(2,.int .i64 d),(3,.ptr (1,3,0) 0),(7,.int .i64 (i:Int))],[((0,0,0),bx [.int .i64 l]),((1,3,0),bx (ec e))]⟩
theorem go (q k1:Nat) (e x:El) (d:Int) (i:Nat) (l l' r:Int) (hr:r ≠ 0) (hx:e.s[i]? = some x) (le:e.s.length ≤ 1000) (d0:0 ≤ d) (d1:d ≤ 100)
    (R:∀ own slot,opened [false,true,false] true (aRun E q) slot 40 [.agg (ec x),.ptr (0,0,0) 0,.int .i64 (d + 1)] (((0,0,0),bx [.int .i64 l]) :: own)=some (.ret (.int .i64 r),((0,0,0),bx [.int .i64 l']) :: own)):rndO fn40 b q k1 (S e d i l)=some (.normal,S e d (i + 1) l'):=by
  have hi:i < e.s.length:=(List.getElem?_eq_some_iff.1 hx).1
  have ix:=El.at_ e.fs e.cs e.s i x hx
  have w:=w64' ((i:Int) + 1) (by omega) (by omega)
  have w2:=w64' (d + 1) (by omega) (by omega)
  simp [b,lp,lps,c40,-indexAddrA,ix,w,w2,hi,R,hr]
abbrev Out0 (l:Int):AExit × St:=(.ret,⟨[(6,.int .i64 0)],[((0,0,0),bx [.int .i64 l])]⟩)
theorem bad (q k1:Nat) (e x:El) (d:Int) (i:Nat) (l l':Int) (hx:e.s[i]? = some x) (le:e.s.length ≤ 1000) (d0:0 ≤ d) (d1:d ≤ 100)
    (R:∀ own slot,opened [false,true,false] true (aRun E q) slot 40 [.agg (ec x),.ptr (0,0,0) 0,.int .i64 (d + 1)] (((0,0,0),bx [.int .i64 l]) :: own)=some (.ret (.int .i64 0),((0,0,0),bx [.int .i64 l']) :: own)):rndO fn40 b q k1 (S e d i l)=some (Out0 l'):=by
  have hi:i < e.s.length:=(List.getElem?_eq_some_iff.1 hx).1
  have ix:=El.at_ e.fs e.cs e.s i x hx
  have w2:=w64' (d + 1) (by omega) (by omega)
  simp [b,lp,lps,c40,-indexAddrA,ix,w2,hi,R]
theorem last (q k1:Nat) (e:El) (d l:Int):rndO fn40 b q k1 (S e d e.s.length l)=some (.exit 0,⟨[(1,.ptr (0,0,0) 0),(2,.int .i64 d),(3,.ptr (1,3,0) 0),(7,.int .i64 (e.s.length:Int)),(38,.bool false)],(S e d e.s.length l).h⟩):=by
  simp [b,lp,lps,c40]
abbrev Lp (K:Nat):=aLoop (aCode E (site fn40 (aRun E K)) (dcall (aRun E K)) K 1 fn40 b) (cleanS 1 ((firstReg b).bind fn40.head))
def En (e:El) (d:Int) (p:Int × Int):AExit × St:=if p.1=0 then Out0 p.2 else (.exit 0,⟨[(1,.ptr (0,0,0) 0),(2,.int .i64 d),(3,.ptr (1,3,0) 0),(7,.int .i64 (e.s.length:Int)),(38,.bool false)],(S e d e.s.length p.2).h⟩)
abbrev Fc (K:Nat) (x:El):Prop:=∀ d l:Int,0 ≤ d → d ≤ 21 → -5 ≤ l → l ≤ 100000 → aRun E K 40 [.agg (ec x),.ptr (0,0,0) 0,.int .i64 d] [((0,0,0),bx [.int .i64 l])]=some (.ret (.int .i64 (few 20 20 x.core l d).1),[((0,0,0),bx [.int .i64 (few 20 20 x.core l d).2])])
theorem loop (K:Nat) (e:El) (le:e.s.length ≤ 1000) (d:Int) (d0:0 ≤ d) (d1:d ≤ 20) (R:∀ x ∈ e.s,Fc K x):∀ (r:List El) (i k:Nat) (l:Int),e.s.drop i=r → i ≤ e.s.length → 0 ≤ l → l ≤ 100000 → r.length < k →
    Lp K k (S e d i l)=some (En e d (fews 20 20 (El.cores r) l d))
  | [],i,k,l,h1,hi,l0,l1,hk => by
    obtain ⟨k,rfl⟩:∃ j,k=j + 1:=⟨k - 1,by omega⟩
    have q:=congrArg List.length h1
    rw [List.length_drop,List.length_nil] at q
    obtain rfl:i=e.s.length:=by omega
    exact aLoop_end (last K K e d l) (fun h => by cases h)
  | x :: r,i,k,l,h1,hi,l0,l1,hk => by
    obtain ⟨k,rfl⟩:∃ j,k=j + 1:=⟨k - 1,by omega⟩
    have q:=congrArg List.length h1
    rw [List.length_drop,List.length_cons] at q
    have hx:e.s[i]? = some x:=by
      have:=congrArg (fun l => l[0]?) h1
      simpa [List.getElem?_drop] using this
    have hd:e.s.drop (i + 1)=r:=by
      have:=congrArg List.tail h1
      simpa [List.tail_drop] using this
    have R':=R x (List.mem_of_getElem? hx) (d + 1) l (by omega) (by omega) (by omega) l1
    have O:=fun own slot => op (slot:=slot) (own:=own) (by rfl) R'
    have lo:=few_le x.core 20 20 l (d + 1)
    rw [El.cores]
    unfold fews
    by_cases h0:(few 20 20 x.core l (d + 1)).1=0
    · rw [if_pos h0]
      rw [h0] at O
      exact aLoop_end (bad K K e x d i l _ hx le d0 (by omega) O) (fun h => by cases h)
    · rw [if_neg h0]
      unfold Lp
      rw [aLoop_succ (go K K e x d i l _ _ h0 hx le d0 (by omega) O)]
      have lp':=few_ok x.core 20 20 l (d + 1) h0
      exact loop K e le d d0 d1 R r (i + 1) k _ hd (by omega) (by omega) (by omega) (by simp at hk; omega)
theorem few_con:∀ e:El,e.ok → ∃ N,∀ K,N ≤ K → Fc K e:=by
  refine El.ind fun e ih he => ?_
  obtain ⟨N,hN⟩:=unif (P:=fun (x:El) (n:Nat) => ∀ K,n ≤ K → Fc K x) (fun x n m h hm K hK => h K (by omega)) e.s (fun x hx => ih x hx (he.sub x hx))
  refine ⟨N + 20 + 60,fun K' hK' d l d0 d1 l0 l1 => ?_⟩
  obtain ⟨K,rfl⟩:∃ K,K'=K + 1:=⟨K' - 1,by omega⟩
  rw [aRun_fn rfl E_fn40 rfl (Nat.le_of_ble_eq_true rfl),body_40,c40]
  rw [El.core_eq e]
  unfold few
  have w:=w64' (l - 1) (by omega) (by omega)
  have lv:=El.avs_len e.s
  have bl:=bs_len e.b
  have cl:(El.cores e.s).length=e.s.length:=by rw [El.cores_map,List.length_map]
  rw [cl]
  by_cases h1:l - 1 < 0
  · rw [if_pos (.inl h1)]
    simp [-s_round,w,h1,lv,bl]
  by_cases h2:20 < d
  · rw [if_pos (.inr (.inl h2))]
    simp [-s_round,w,h1,h2,lv,bl]
  by_cases h3:20 < e.b.length
  · have h3':(20:Int) < e.b.length:=by omega
    rw [if_pos (.inr (.inr (.inl h3)))]
    simp [-s_round,w,h1,h2,h3,h3',lv,bl]
  by_cases h4:20 < e.s.length
  · have h4':(20:Int) < e.s.length:=by omega
    have h3':¬ (20:Int) < e.b.length:=by omega
    rw [if_pos (.inr (.inr (.inr h4)))]
    simp [-s_round,w,h1,h2,h3,h4,h3',h4',lv,bl]
  have h3':¬ (20:Int) < e.b.length:=by omega
  have h4':¬ (20:Int) < e.s.length:=by omega
  rw [if_neg (by rintro (h | h | h | h) <;> contradiction)]
  have L:=loop K e (by omega) d d0 (by omega) (fun x hx => hN x hx K (by omega)) e.s 0 K (l - 1) rfl (by omega) (by omega) (by omega) (by omega)
  simp [Lp,b,lp,lps,c40,firstReg,S,bx,ec] at L
  have pk:=fun h => (fews_ok (El.cores e.s) 20 20 (l - 1) d (by omega) (by omega) h).2.2.2
  generalize fews 20 20 (El.cores e.s) (l - 1) d=p at L pk ⊢
  obtain ⟨p1,p2⟩:=p
  simp only [En] at L
  by_cases hp:p1=0
  · rw [if_pos hp] at L
    subst hp
    simp [-s_round,w,h1,h2,h3,h4,h3',h4',lv,bl,L]
  · rw [if_neg hp] at L
    obtain rfl:=pk hp
    simp [-s_round,w,h1,h2,h3,h4,h3',h4',lv,bl,L,hp]
end Q1
end
section
open Ab Go TabE Sp E34
namespace Q2
def b48:Code:=lp c44 0
abbrev S48 (f g:Bool) (d:Option Nat) (p:List Int) (e:Int) (i:Nat):St:=⟨[(2,.ptr (1,2,0) 0),(3,.ptr (1,3,0) 0),(5,.int .i64 (i:Int))],[((1,2,0),bx [.sl f (ns p) (some p.length),.int .i64 e]),((1,3,0),bx [.sl g (ns p) d,.int .i64 e])]⟩
theorem go48 (q k1:Nat) (f g d) (p:List Int) (e:Int) (i:Nat) (x:Int) (hx:p[i]? = some x) (hl:p.length ≤ 100000000):rnd fn44 b48 q k1 (S48 f g d p e i)=some (.normal,S48 f g d p e (i + 1)):=by
  have hi:i < p.length:=(List.getElem?_eq_some_iff.1 hx).1
  have ix:=int_at f (some p.length) p i x hx
  have iy:=int_at g d p i x hx
  have w:=w64' ((i:Int) + 1) (by omega) (by omega)
  simp [b48,lp,lps,c44,-indexAddrA,ix,iy,w,hi]
theorem last48 (q k1:Nat) (f g d) (p:List Int) (e:Int):rnd fn44 b48 q k1 (S48 f g d p e p.length)=some (.exit 0,⟨[(2,.ptr (1,2,0) 0),(3,.ptr (1,3,0) 0),(5,.int .i64 (p.length:Int)),(33,.bool false)],(S48 f g d p e p.length).h⟩):=by
  simp [b48,lp,lps,c44]
theorem fault (f g d) (p:List Int) (e:Int) (hl:p.length ≤ 100000000):Con E (p.length + 20) 44 [.agg [.sl f (ns p) (some p.length),.int .i64 e],.agg [.sl g (ns p) d,.int .i64 e]] (.int .i64 1):=by
  obtain ⟨K,hK⟩:∃ K,p.length + 19=K:=⟨_,rfl⟩
  have eK:p.length + 20=K + 1:=by omega
  rw [eK]
  have L:=loopQ (fn:=fn44) (b:=b48) (K:=K) (k:=K) (fun i => S48 f g d p e i) p.length rfl (fun i hi => by
    obtain ⟨x,hx⟩:∃ x,p[i]? = some x:=⟨p[i],by simp⟩
    exact go48 K K f g d p e i x hx hl) (last48 K K f g d p e) (by simp) (by omega)
  refine con_of E_fn44 (by simp [AV.pureL,AV.pure]) (Nat.le_of_ble_eq_true rfl) rfl rfl (g:=[]) ?_
  rw [body_44,c44]
  simp [b48,lp,lps,c44,firstReg,S48,bx] at L
  simp [-s_round,L]
end Q2
end
section
open Ab Go TabE Sp E34 F1 Rw F5 F6 F7 F8 Q3 Q6 Q7 Q10 Q12 Q13
namespace Q17
theorem opk {run:RunF} {slot:Nat} {cs:List AV} {d l r l':Int} {h:Heap} {key:Key} (hp:AV.pureL cs=true) (hk:lookK h key=some (bx [.int .i64 l]))
    (hr:run 40 [.agg cs,.ptr (0,0,0) 0,.int .i64 d] [((0,0,0),bx [.int .i64 l])]=some (.ret (.int .i64 r),[((0,0,0),bx [.int .i64 l'])])) :
    opened [false,true,false] true run slot 40 [.agg cs,.ptr key 0,.int .i64 d] h=some (.ret (.int .i64 r),setK h key (bx [.int .i64 l'])):=by
  have e1:sealM (sealA 20) [false,true,false] h [.agg cs,.ptr key 0,.int .i64 d]=some ([.agg cs,.ptr key 0,.int .i64 d],h):=by
    simp [sealM,sl_agg,sl_int,hp]
  have k1:AV.keysL cs=[]:=AV.keysL_pure _ hp
  have r1:∀ φ,AV.rnL φ cs=cs:=fun φ => rnL_pure cs hp
  unfold opened
  rw [e1]
  have e2:AV.keysL [.agg cs,.ptr key 0,.int .i64 d]=[key]:=by simp [AV.keysL,AV.keys,k1]
  simp only [e2]
  have e3:dd (reach h 3 [key])=[key]:=by simp [reach,hk,AV.keysL,AV.keys,dd]
  rw [e3]
  unfold lendA
  have e4:lendH h (inK [key]) [key]=some [((0,0,0),bx [.int .i64 l])]:=by simp [lendH,hk,inK,posK,AV.rnL,AV.rn]
  rw [e4]
  have e6:closedH h [key] [key]=true:=by simp [closedH,hk,AV.keysL,AV.keys]
  simp only [e2]
  rw [if_pos ⟨e6,by simp [inKs]⟩]
  have e5:AV.rnL (inK [key]) [.agg cs,.ptr key 0,.int .i64 d]=[.agg cs,.ptr (0,0,0) 0,.int .i64 d]:=by simp [AV.rnL,AV.rn,inK,posK,r1]
  rw [e5,hr]
  have e9:lentKs 1=[(0,0,0)]:=rfl
  have e7:dd (reach [((0,0,0),bx [AV.int .i64 l'])] 3 ([(0,0,0)] ++ []))=[(0,0,0)]:=by kernel_rfl
  have e10:closedH [((0,0,0),bx [AV.int .i64 l'])] [(0,0,0)] [(0,0,0)]=true:=by kernel_rfl
  have e8:AV.keysL [AV.int .i64 r]=[]:=rfl
  have e11:∀ g:Heap,sealA 20 g (AV.int .i64 r)=some (AV.int .i64 r,g):=fun g => rfl
  simp only [backR,if_true,e11,backV,Ab.back,List.length_singleton,e8,e9,e7,backA]
  rw [if_pos ⟨e10,by rfl,by rfl,by rfl⟩]
  simp [AV.rnL,AV.rn,outK,posK,putAll,lookK]
theorem lives:Con E 200 41 [] (.bool true):=.of (g:=[]) rfl (by kernel_rfl)
abbrev Fw (K:Nat) (e:El) (r l':Int):Prop:=aRun E K 40 [.agg (ec e),.ptr (0,0,0) 0,.int .i64 0] [((0,0,0),bx [.int .i64 20])]=some (.ret (.int .i64 r),[((0,0,0),bx [.int .i64 l'])])
theorem many (K:Nat) (hK:200 ≤ K) (e:El) (l':Int) (fw:Fw K e 0 l'):Con E (K + 1) 9 [e.av] (.bool true):=by
  have o:=fun slot h hk => opk (slot:=slot) (h:=h) (key:=(1,3,0)) (l:=20) (by rfl) hk fw
  have lv:=lives K hK 0
  refine con_ofO E_fn9 (by simp [AV.pureL,El.av_pure,AV.pure]) (Nat.le_of_ble_eq_true rfl) rfl (g:=[]) ?_
  rw [body_9,c9]
  simp [El.av_eq,o,lv]
theorem bad (K:Nat) (hK:200 ≤ K) (e:El) (r l':Int) (hr:r ≠ 0) (fw:Fw K e r l') (a b w:Int) (p:List Int) (hw:w ≠ 0) (hp:p.length ≤ 1)
    (A:∀ h,aCall E K 0 42 [e.av] h=some (.ret (R a b p w),h)) (B:∀ h,aCall E K 0 43 [e.av] h=some (.ret (Q15.RR a b p w),h)):Con E (K + 1) 9 [e.av] (.bool true):=by
  have o:=fun slot h hk => opk (slot:=slot) (h:=h) (key:=(1,3,0)) (l:=20) (by rfl) hk fw
  have lv:=lives K hK 0
  have F:=fun f g d => Q2.fault f g d p w (by omega) K (by omega) 0
  have np:=ns_pure p
  refine con_ofO E_fn9 (by simp [AV.pureL,El.av_pure,AV.pure]) (Nat.le_of_ble_eq_true rfl) rfl (g:=[]) ?_
  rw [body_9,c9]
  simp only [R,Q15.RR,fF,fR,El.av_eq] at A B
  simp [El.av_eq,o,lv,A,B,F,hr,hw,np,fitZ]
theorem good (K:Nat) (hK:200 ≤ K) (e:El) (r l':Int) (hr:r ≠ 0) (fw:Fw K e r l') (a b:Int) (y:El)
    (A:∀ h,aCall E K 0 42 [e.av] h=some (.ret (R a b [] 0),h)) (B:∀ h,aCall E K 0 43 [e.av] h=some (.ret (Q15.RR a b [] 0),h))
    (C:∀ h,aCall E K 0 46 [.agg [.int .i64 a,.int .i64 b]] h=some (.ret (.int .i64 0),h)) (D:∀ h,aCall E K 0 45 [.agg [.int .i64 a,.int .i64 b]] h=some (.ret (.tup [y.av,.int .i64 0]),h))
    (S:∀ h,aCall E K 0 20 [y.av,e.av] h=some (.ret (.int .i64 1),h)):Con E (K + 1) 9 [e.av] (.bool true):=by
  have o:=fun slot h hk => opk (slot:=slot) (h:=h) (key:=(1,3,0)) (l:=20) (by rfl) hk fw
  have lv:=lives K hK 0
  have F:=fun f g d => Q2.fault f g d [] 0 (by simp) K (by simp; omega) 0
  refine con_ofO E_fn9 (by simp [AV.pureL,El.av_pure,AV.pure]) (Nat.le_of_ble_eq_true rfl) rfl (g:=[]) ?_
  rw [body_9,c9]
  simp [R,Q15.RR,fF,fR,El.av_eq] at A B C D S F
  simp [El.av_eq,o,lv,A,B,C,D,S,F,hr,fitZ]
theorem law (e:El) (he:e.ok):∃ N,Con E N 9 [e.av] (.bool true):=by
  obtain ⟨Nf,few⟩:=Q1.few_con e he
  by_cases hq:(FW.few 20 20 e.core 20 0).1=0
  · have F:=few (Nf + 200) (by omega) 0 20 (by omega) (by omega) (by omega) (by omega)
    rw [hq] at F
    exact ⟨Nf + 200 + 1,many (Nf + 200) (by omega) e _ F⟩
  have fe:=FW.few_fe 20 20 e 20 0 hq
  obtain ⟨_,b1,s1,sub⟩:=fe
  obtain ⟨N,a,b,p,w,h⟩:=Q16.both e he (by omega) (fun x hx => by obtain ⟨_,q,_,_⟩:=sub x hx; omega)
  rcases h with ⟨A,B,hp,hz,_,_,_⟩ | ⟨A,B,hn⟩
  · by_cases hw:w=0
    · subst hw
      obtain ⟨rfl,hc,y,hy,yo,D⟩:=hz rfl
      obtain ⟨M,S⟩:=F1.same y e yo hy
      have F:=few (Nf + N + M + 300) (by omega) 0 20 (by omega) (by omega) (by omega) (by omega)
      have C:=QB.chkR a b
      rw [hc] at C
      exact ⟨_,good (Nf + N + M + 300) (by omega) e _ _ hq F a b y (A _ (by omega) 0) (B _ (by omega) 0) (C _ (by omega) 0) (D _ (by omega) 0) (S _ (by omega) 0)⟩
    · have F:=few (Nf + N + 300) (by omega) 0 20 (by omega) (by omega) (by omega) (by omega)
      exact ⟨_,bad (Nf + N + 300) (by omega) e _ _ hq F a b w p hw (by omega) (A _ (by omega) 0) (B _ (by omega) 0)⟩
  · have F:=few (Nf + N + 300) (by omega) 0 20 (by omega) (by omega) (by omega) (by omega)
    exact ⟨_,bad (Nf + N + 300) (by omega) e _ _ hq F 0 0 _ [] hn (by simp) (A _ (by omega) 0) (B _ (by omega) 0)⟩
end Q17
end
end
section
open Ab Go TabE
attribute [local simp ↓] s_seq s_reg s_regd s_cond s_block s_cons s_consG
attribute [local simp] s_nil s_loop s_round s_lpn s_lpe s_lpr firstReg s_gt s_gf s_wb s_wu s_val s_valN s_skip s_calls s_callP s_cax lookR flatR pureKs s_ret s_rgx s_sqn s_sqr s_sqe s_cdb s_bkn s_bkr s_bke s_exit s_ret' s_skip' s_finr s_finn s_fin1 s_fix s_clean s_gc0 o_tmp o_int o_bool o_nil o_str o_fn o_nil' l_hit l_miss l_nil ol_nil ol_cons ol_some x_move x_assign x_pick pk_t pk_f x_bin bn_s x_un x_extract x_callF cl_no x_callB x_callBF frzV x_conv cvx convA frame0 binA intOp resL resA results1 sealLW AV.pure AV.pureL keepT x_alloc x_box bxx x_build bdx x_buildSlice bsx x_buildSliceF bsf x_load ldx x_store stx x_slice slx x_fieldAddr x_field x_index ixx x_indexAddr iax x_makeSlice msx x_makeSliceF msf x_nilCheck newK genOf setK lookK fillA writeL writeC readC conts TyI.mk1 sliceA boundsA boundsB fitsA numA indexAddrA fieldAddrA partA fieldA indexA appendA copyA builtinA AV.cells chunk gcH reach keysT keepK inKs AV.keys AV.keysL Ty.isAgg eq1 eqL convA.go ltI w_u8 w_u32 w_u64 w_i64 w_fdiv w_tdiv w_tmod IntKind.bits unA sc_int sc_bool sc_str sc_sl sc_ref sc_ptr sc_pel sc_nilp sc_fn sc_nilf sc_if sc_nili sc_agg sc_tup sc_mem bs_pure bs_kl bs_length bs_cells bs_all sl_row sealRow sealY sl_int sl_bool sl_str sl_sl sl_nilp sl_nilf sl_nili sl_pel sl_agg sl_tup sl_fn sl_if nat_1 bs_cons bs_nil i_beq i_bne x_mkF x_mkI x_tassert x_panic s_pan s_sqp s_bkp s_finp s_fixp s_lpp s_rgp s_retp s_site s_stxN s_stxO x_callT clx El.avs_len
section
open Ab Go TabE Sp E34 F1 F4 F5
namespace F17
theorem dig1 (v:Int) (h0:0 ≤ v) (h1:v < 128):Con E 20 112 [.int .u32 v] (.sl false [.int .u8 (TG.oct v 0)] (some 1)):=by
  refine con_of E_fn112 rfl (Nat.le_of_ble_eq_true rfl) rfl rfl (g:=[]) ?_
  rw [body_112,c112]
  have q1:v.tmod 128=v:=by rw [Int.tmod_eq_emod_of_nonneg h0]; omega
  have q2:v.tdiv 128=0:=by rw [Int.tdiv_eq_ediv_of_nonneg h0]; omega
  have q3:v % 256=v:=by omega
  have o:TG.oct v 0=v:=by unfold TG.oct; simp; omega
  simp [q1,q2,q3,o,w_i64]
theorem dig2 (v:Int) (h0:128 ≤ v) (h1:v < 16384):Con E 20 112 [.int .u32 v] (.sl false [.int .u8 (TG.oct v 1),.int .u8 (TG.oct v 0)] none):=by
  refine con_of E_fn112 rfl (Nat.le_of_ble_eq_true rfl) rfl rfl (g:=[]) ?_
  rw [body_112,c112]
  have q1:v.tmod 128=v % 128:=Int.tmod_eq_emod_of_nonneg (by omega)
  have q2:v.tdiv 128=v / 128:=Int.tdiv_eq_ediv_of_nonneg (by omega)
  have q3:v % 128 % 256=v % 128:=by omega
  have a1:0 < v / 128:=by omega
  have m1:v / 128 % 4294967296=v / 128:=by omega
  have q4:(v / 128).tmod 128=v / 128:=by rw [Int.tmod_eq_emod_of_nonneg (by omega)]; omega
  have q5:(v / 128).tdiv 128=0:=by rw [Int.tdiv_eq_ediv_of_nonneg (by omega)]; omega
  have m2:(128 + v / 128) % 4294967296=128 + v / 128:=by omega
  have q6:(128 + v / 128) % 256=128 + v / 128:=by omega
  have o0:TG.oct v 0=v % 128:=by unfold TG.oct; simp
  have o1:TG.oct v 1=128 + v / 128:=by unfold TG.oct; simp; omega
  simp [q1,q2,q3,a1,m1,m2,q4,q5,q6,o0,o1,w_i64]
theorem dig3 (v:Int) (h0:16384 ≤ v) (h1:v < 2097152):Con E 20 112 [.int .u32 v] (.sl false [.int .u8 (TG.oct v 2),.int .u8 (TG.oct v 1),.int .u8 (TG.oct v 0)] none):=by
  refine con_of E_fn112 rfl (Nat.le_of_ble_eq_true rfl) rfl rfl (g:=[]) ?_
  rw [body_112,c112]
  have q1:v.tmod 128=v % 128:=Int.tmod_eq_emod_of_nonneg (by omega)
  have q2:v.tdiv 128=v / 128:=Int.tdiv_eq_ediv_of_nonneg (by omega)
  have q3:v % 128 % 256=v % 128:=by omega
  have a1:0 < v / 128:=by omega
  have m1:v / 128 % 4294967296=v / 128:=by omega
  have q4:(v / 128).tmod 128=v / 128 % 128:=Int.tmod_eq_emod_of_nonneg (by omega)
  have q5:(v / 128).tdiv 128=v / 16384:=by rw [Int.tdiv_eq_ediv_of_nonneg (by omega)]; omega
  have a2:0 < v / 16384:=by omega
  have m3:v / 16384 % 4294967296=v / 16384:=by omega
  have q7:(v / 16384).tmod 128=v / 16384:=by rw [Int.tmod_eq_emod_of_nonneg (by omega)]; omega
  have q8:(v / 16384).tdiv 128=0:=by rw [Int.tdiv_eq_ediv_of_nonneg (by omega)]; omega
  have m2:(128 + v / 128 % 128) % 4294967296=128 + v / 128 % 128:=by omega
  have m4:(128 + v / 16384) % 4294967296=128 + v / 16384:=by omega
  have q6:(128 + v / 128 % 128) % 256=128 + v / 128 % 128:=by omega
  have q9:(128 + v / 16384) % 256=128 + v / 16384:=by omega
  have o0:TG.oct v 0=v % 128:=by unfold TG.oct; simp
  have o1:TG.oct v 1=128 + v / 128 % 128:=by unfold TG.oct; simp; omega
  have o2:TG.oct v 2=128 + v / 16384:=by unfold TG.oct; simp; omega
  simp [q1,q2,q3,a1,a2,m1,m2,m3,m4,q4,q5,q7,q8,q6,q9,o0,o1,o2,w_i64]
theorem dig4 (v:Int) (h0:2097152 ≤ v) (h1:v < 268435456):Con E 20 112 [.int .u32 v] (.sl false [.int .u8 (TG.oct v 3),.int .u8 (TG.oct v 2),.int .u8 (TG.oct v 1),.int .u8 (TG.oct v 0)] none):=by
  refine con_of E_fn112 rfl (Nat.le_of_ble_eq_true rfl) rfl rfl (g:=[]) ?_
  rw [body_112,c112]
  have q1:v.tmod 128=v % 128:=Int.tmod_eq_emod_of_nonneg (by omega)
  have q2:v.tdiv 128=v / 128:=Int.tdiv_eq_ediv_of_nonneg (by omega)
  have q3:v % 128 % 256=v % 128:=by omega
  have a1:0 < v / 128:=by omega
  have m1:v / 128 % 4294967296=v / 128:=by omega
  have q4:(v / 128).tmod 128=v / 128 % 128:=Int.tmod_eq_emod_of_nonneg (by omega)
  have q5:(v / 128).tdiv 128=v / 16384:=by rw [Int.tdiv_eq_ediv_of_nonneg (by omega)]; omega
  have a2:0 < v / 16384:=by omega
  have m3:v / 16384 % 4294967296=v / 16384:=by omega
  have q7:(v / 16384).tmod 128=v / 16384 % 128:=Int.tmod_eq_emod_of_nonneg (by omega)
  have q8:(v / 16384).tdiv 128=v / 2097152:=by rw [Int.tdiv_eq_ediv_of_nonneg (by omega)]; omega
  have a3:0 < v / 2097152:=by omega
  have m5:v / 2097152 % 4294967296=v / 2097152:=by omega
  have p7:(v / 2097152).tmod 128=v / 2097152:=by rw [Int.tmod_eq_emod_of_nonneg (by omega)]; omega
  have p8:(v / 2097152).tdiv 128=0:=by rw [Int.tdiv_eq_ediv_of_nonneg (by omega)]; omega
  have m2:(128 + v / 128 % 128) % 4294967296=128 + v / 128 % 128:=by omega
  have m4:(128 + v / 16384 % 128) % 4294967296=128 + v / 16384 % 128:=by omega
  have m6:(128 + v / 2097152) % 4294967296=128 + v / 2097152:=by omega
  have q6:(128 + v / 128 % 128) % 256=128 + v / 128 % 128:=by omega
  have q9:(128 + v / 16384 % 128) % 256=128 + v / 16384 % 128:=by omega
  have p9:(128 + v / 2097152) % 256=128 + v / 2097152:=by omega
  have o0:TG.oct v 0=v % 128:=by unfold TG.oct; simp
  have o1:TG.oct v 1=128 + v / 128 % 128:=by unfold TG.oct; simp; omega
  have o2:TG.oct v 2=128 + v / 16384 % 128:=by unfold TG.oct; simp; omega
  have o3:TG.oct v 3=128 + v / 2097152:=by unfold TG.oct; simp; omega
  simp [q1,q2,q3,a1,a2,a3,m1,m2,m3,m4,m5,m6,q4,q5,q7,q8,q6,q9,p7,p8,p9,o0,o1,o2,o3,w_i64]
theorem dig (v:Int) (h0:0 ≤ v) (h1:v ≤ 268435455):∃ c,Con E 20 112 [.int .u32 v] (.sl false (bs (TG.grp v)) c):=by
  unfold TG.grp TG.top
  by_cases a:v < 128
  · rw [if_pos a]; exact ⟨_,dig1 v h0 a⟩
  rw [if_neg a]
  by_cases b:v < 16384
  · rw [if_pos b]; exact ⟨_,dig2 v (by omega) b⟩
  rw [if_neg b]
  by_cases c:v < 2097152
  · rw [if_pos c]; exact ⟨_,dig3 v (by omega) c⟩
  rw [if_neg c]
  exact ⟨_,dig4 v (by omega) (by omega)⟩
end F17
end
section
open Ab Go TabE Sp E34 F1 F4 F5 F17
namespace F18
def bE:Code:=lp c65 0
abbrev S0 (e:El) (i:Nat):St:=⟨[(1,.ptr (1,1,0) 0),(3,.sl true [] (some 0)),(4,.int .i64 (i:Int))],[((1,1,0),bx (ec e))]⟩
abbrev SR (e:El) (i:Nat) (key:Key) (ys:List Int):St:=⟨[(1,.ptr (1,1,0) 0),(3,.ref key 0 ys.length none),(4,.int .i64 (i:Int))],[((1,1,0),bx (ec e)),(key,⟨bs ys,true,true,false,1,false⟩)]⟩
theorem first (q k1:Nat) (e x:El) (i:Nat) (xs:List Int) (c:Option Nat) (hx:e.s[i]? = some x) (le:e.s.length ≤ 9223372036854775807) (n0:xs ≠ []) (n1:xs.length ≤ 2000000) (B:∀ h,aCall E q 0 65 [x.av] h=some (.ret (.sl false (bs xs) c),h)) :
    rndO fn65 bE q k1 (S0 e i)=some (.normal,SR e (i + 1) (1,27,0) xs):=by
  have hi:i < e.s.length:=(List.getElem?_eq_some_iff.1 hx).1
  have ix:=El.at_ e.fs e.cs e.s i x hx
  have w:=w64' ((i:Int) + 1) (by omega) (by omega)
  have cp:xs.length ≤ 70368744177664:=by omega
  rw [El.av_eq] at B
  simp [bE,lp,lps,c65,-indexAddrA,ix,w,hi,B,n0,cp]
theorem next (q k1:Nat) (e x:El) (i m:Nat) (xs ys:List Int) (c:Option Nat) (hx:e.s[i]? = some x) (le:e.s.length ≤ 9223372036854775807) (n1:ys.length + xs.length ≤ 2000000) (B:∀ h,aCall E q 0 65 [x.av] h=some (.ret (.sl false (bs xs) c),h)) :
    rndO fn65 bE q k1 (SR e i (1,27,m) ys)=some (.normal,SR e (i + 1) (1,27,m + 1) (ys ++ xs)):=by
  have hi:i < e.s.length:=(List.getElem?_eq_some_iff.1 hx).1
  have ix:=El.at_ e.fs e.cs e.s i x hx
  have w:=w64' ((i:Int) + 1) (by omega) (by omega)
  have cp:ys.length + xs.length ≤ 70368744177664:=by omega
  have kk:AV.keysL (bs ys ++ bs xs)=[]:=by rw [← bs_append]; exact bs_kl _
  rw [El.av_eq] at B
  simp [bE,lp,lps,c65,-indexAddrA,ix,w,hi,B,cp,bs_append,kk]
theorem last0 (q k1:Nat) (e:El):rndO fn65 bE q k1 (S0 e e.s.length)=some (.exit 0,⟨[(1,.ptr (1,1,0) 0),(3,.sl true [] (some 0)),(4,.int .i64 (e.s.length:Int)),(17,.bool false)],[((1,1,0),bx (ec e))]⟩):=by
  simp [bE,lp,lps,c65]
theorem last (q k1:Nat) (e:El) (key:Key) (ys:List Int) (hkey:key=(1,12,0) ∨ ∃ m,key=(1,27,m)):rndO fn65 bE q k1 (SR e e.s.length key ys)=some (.exit 0,⟨[(1,.ptr (1,1,0) 0),(3,.ref key 0 ys.length none),(4,.int .i64 (e.s.length:Int)),(17,.bool false)],[((1,1,0),bx (ec e)),(key,⟨bs ys,true,true,false,1,false⟩)]⟩):=by
  rcases hkey with rfl | ⟨m,rfl⟩ <;> simp [bE,lp,lps,c65]
end F18
end
end
section
open Ab Go TabE Sp E12 E18 E26 E34 E36 F1 F4 F5
namespace F23
structure Gd (x:El):Prop where
  ok:x.ok
  vld:vld x.core
  fw:Fw 1000 x
  dep:dep x.core ≤ 16
  cnt:cnt x.core ≤ 60
  len:(enc x.core).length ≤ 60000
theorem Gd.sub {e x:El} (g:Gd e) (hx:x ∈ e.s):Gd x:=by
  obtain ⟨v1,v2,v3,v4⟩:=(vld_eq e).1 g.vld
  have f:=g.fw
  obtain ⟨_,h1,h2⟩:=f
  have d:=g.dep
  rw [dep_eq] at d
  have c:=g.cnt
  rw [cnt_eq] at c
  have:=deps_mem hx
  have:=cnts_mem hx
  have l:=g.len
  have lm:=encs_mem hx
  rw [enc_eq,List.length_append,List.length_append,List.length_append] at l
  exact ⟨g.ok.sub x hx,vlds_all.1 v4 x hx,h2 x hx,by omega,by omega,by omega⟩
theorem Gd.chk {e:El} (g:Gd e):(chk e.core 1 0 0).1=0:=chk_of _ _ _ _ g.vld (by have:=g.dep; omega) (by have:=g.cnt; omega)
theorem Gd.sm {e:El} (g:Gd e):e.sm:=fw_sm (by omega) e g.fw (by have:=g.cnt; omega)
theorem Gd.sl {e:El} (g:Gd e):e.s.length ≤ 60:=by
  have c:=g.cnt
  rw [cnt_eq] at c
  have:=cnts_len e.s
  omega
end F23
end
section
open Ab Go TabE Sp E34 F1 F4 F5
namespace F31
abbrev z5:List AV:=[.int .u8 0,.bool false,.int .u32 0,.sl true [] (some 0),.sl true [] (some 0)]
end F31
end
section
open Ab Go TabE
attribute [local simp ↓] s_seq s_reg s_regd s_cond s_block s_cons s_consG s_regD
attribute [local simp] s_nil s_loop s_round s_lpn s_lpe s_lpr firstReg s_gt s_gf s_wb s_wu s_val s_valN s_skip s_calls s_callP s_cax lookR flatR pureKs s_ret s_rgx s_sqn s_sqr s_sqe s_cdb s_bkn s_bkr s_bke s_exit s_ret' s_skip' s_finr s_finn s_fin1 s_fix s_clean s_gc0 o_tmp o_int o_bool o_nil o_str o_fn o_nil' l_hit l_miss l_nil ol_nil ol_cons ol_some x_move x_assign x_pick pk_t pk_f x_bin bn_s x_un x_extract x_callF cl_no x_callB x_callBF frzV x_conv cvx convA frame0 binA intOp resL resA results1 sealLW AV.pure AV.pureL keepT x_alloc x_box bxx x_build bdx x_buildSlice bsx x_buildSliceF bsf x_load ldx x_store stx x_slice slx x_fieldAddr x_field x_index ixx x_indexAddr iax x_makeSlice msx x_makeSliceF msf x_nilCheck newK genOf setK lookK fillA writeL writeC readC conts TyI.mk1 sliceA boundsA boundsB fitsA numA indexAddrA fieldAddrA partA fieldA indexA appendA copyA builtinA AV.cells chunk gcH reach keysT keepK inKs AV.keys AV.keysL Ty.isAgg eq1 eqL convA.go ltI w_u8 w_u32 w_u64 w_i64 w_fdiv w_tdiv w_tmod IntKind.bits unA sc_int sc_bool sc_str sc_sl sc_ref sc_ptr sc_pel sc_nilp sc_fn sc_nilf sc_if sc_nili sc_agg sc_tup sc_mem bs_pure bs_kl bs_length bs_cells bs_all sl_row sealRow sealY sl_int sl_bool sl_str sl_sl sl_nilp sl_nilf sl_nili sl_pel sl_agg sl_tup sl_fn sl_if nat_1 bs_cons bs_nil i_beq i_bne x_mkF x_mkI x_tassert x_panic s_pan s_sqp s_bkp s_finp s_fixp s_lpp s_rgp s_retp s_site s_stxN s_stxO x_callT clx El.avs_len s_dyn0 s_rgy barOf dynChk footL dynOK disjK keysOp opVals Op.operands
section
open Ab Go TabE Sp E34 F1 F4 F5 F31
namespace F34
theorem step_ok (e x:El) (n:Nat) (le:e.s.length ≤ 1000) (hx:e.s[n]? = some x):Con E 10 147 [e.av,.int .i64 n] (.tup [x.av,.bool true]):=by
  have hl:n < e.s.length:=(List.getElem?_eq_some_iff.1 hx).1
  have ix:=El.at_ e.fs e.cs e.s n x hx
  have n1:¬ ((n:Int) < 0):=by omega
  have n2:¬ ((e.s.length:Int) ≤ n):=by omega
  have n3:¬ (e.s.length ≤ n):=by omega
  have lv:=El.avs_len e.s
  refine con_of E_fn147 (by simp [AV.pureL,AV.pure,El.av_pure]) (Nat.le_of_ble_eq_true rfl) rfl rfl (g:=[]) ?_
  rw [body_147,c147,El.av_eq x]
  simp [El.av_eq e,-indexAddrA,ix,n1,n2,n3,lv,hl]
theorem step_bad (e:El) (p:Int) (h:p < 0 ∨ (e.s.length:Int) ≤ p):Con E 10 147 [e.av,.int .i64 p] (.tup [.agg z5,.bool false]):=by
  have lv:=El.avs_len e.s
  refine con_of E_fn147 (by simp [AV.pureL,AV.pure,El.av_pure]) (Nat.le_of_ble_eq_true rfl) rfl rfl (g:=[]) ?_
  rw [body_147,c147]
  by_cases h0:p < 0
  · simp [El.av_eq e,-indexAddrA,h0,lv]
  · have h1:(e.s.length:Int) ≤ p:=by omega
    simp [El.av_eq e,-indexAddrA,h0,h1,lv]
def bZ:Code:=lp c161 0
abbrev SZ (f:Bool) (s:List El) (c:Option Nat) (n:Int) (i:Nat):St:=⟨[(2,.int .i64 n),(7,.sl f (El.avs s) c),(8,.int .i64 (s.length:Int)),(9,.int .i64 (i:Int))],[]⟩
theorem zgo (q k1:Nat) (f s c) (n:Int) (i:Nat) (x:El) (ls:s.length ≤ 1000) (hx:s[i]? = some x) (n0:0 ≤ n) (n1:n ≤ 10000000) (lx:(enc x.core).length ≤ 1000000) (B:∀ h,aCall E q 0 95 [x.av] h=some (.ret (.tup [.sl false (bs (enc x.core)) (some (enc x.core).length),.int .i64 0]),h)):rnd fn161 bZ q k1 (SZ f s c n i)=some (.normal,SZ f s c (n + (enc x.core).length) (i + 1)):=by
  have hi:i < s.length:=(List.getElem?_eq_some_iff.1 hx).1
  have ix:=El.at_ f c s i x hx
  have w:=w64' ((i:Int) + 1) (by omega) (by omega)
  have w2:=w64' (n + (enc x.core).length) (by omega) (by omega)
  have lb:=bs_len (enc x.core)
  rw [El.av_eq] at B
  simp [bZ,lp,lps,c161,-indexAddrA,ix,w,w2,hi,B,lb]
theorem zlast (q k1:Nat) (f s c) (n:Int):rnd fn161 bZ q k1 (SZ f s c n s.length)=some (.exit 0,⟨[(2,.int .i64 n),(7,.sl f (El.avs s) c),(8,.int .i64 (s.length:Int)),(9,.int .i64 (s.length:Int)),(10,.bool false)],[]⟩):=by
  simp [bZ,lp,lps,c161]
abbrev LpZ (K:Nat):=aLoop (aCode E (aCall E K) (dcall (aRun E K)) K 1 fn161 bZ) (cleanS 1 ((firstReg bZ).bind fn161.head))
theorem zloop (K:Nat) (f s c) (ls:s.length ≤ 1000) (B:∀ x ∈ s,∀ h,aCall E K 0 95 [x.av] h=some (.ret (.tup [.sl false (bs (enc x.core)) (some (enc x.core).length),.int .i64 0]),h)):∀ (r:List El) (i k:Nat) (n:Int),s.drop i=r → i ≤ s.length → 0 ≤ n → n + (encs (El.cores r)).length ≤ 1000000 → r.length < k →
    LpZ K k (SZ f s c n i)=some (.exit 0,⟨[(2,.int .i64 (n + (encs (El.cores r)).length)),(7,.sl f (El.avs s) c),(8,.int .i64 (s.length:Int)),(9,.int .i64 (s.length:Int)),(10,.bool false)],[]⟩)
  | [],i,k,n,h1,hi,n0,hn,hk => by
    obtain ⟨k,rfl⟩:∃ j,k=j + 1:=⟨k - 1,by omega⟩
    have q:=congrArg List.length h1
    rw [List.length_drop,List.length_nil] at q
    obtain rfl:i=s.length:=by omega
    have h:=aLoop_end (k:=k) (zlast K K f s c n) (fun h => by cases h)
    simpa [El.cores,encs] using h
  | x :: r,i,k,n,h1,hi,n0,hn,hk => by
    obtain ⟨k,rfl⟩:∃ j,k=j + 1:=⟨k - 1,by omega⟩
    have hx:s[i]? = some x:=by
      have:=congrArg (fun l => l[0]?) h1
      simpa [List.getElem?_drop] using this
    have hd:s.drop (i + 1)=r:=by
      have:=congrArg List.tail h1
      simpa [List.tail_drop] using this
    have hl:i < s.length:=(List.getElem?_eq_some_iff.1 hx).1
    have e1:((encs (El.cores (x :: r))).length:Int)=(enc x.core).length + (encs (El.cores r)).length:=by
      rw [El.cores,encs,List.length_append]; omega
    rw [e1] at hn ⊢
    have h:=zloop K f s c ls B r (i + 1) k (n + (enc x.core).length) hd (by omega) (by omega) (by omega) (by simp at hk; omega)
    unfold LpZ at h ⊢
    rw [aLoop_succ (zgo K K f s c n i x ls hx n0 (by omega) (by omega) (B x (List.mem_of_getElem? hx))),h,Int.add_assoc]
theorem size (f s c) (ls:s.length ≤ 1000) (hl:(encs (El.cores s)).length ≤ 1000000) (N:Nat) (B:∀ x ∈ s,Con E N 95 [x.av] (.tup [.sl false (bs (enc x.core)) (some (enc x.core).length),.int .i64 0])):Con E (N + s.length + 20) 161 [.sl f (El.avs s) c] (.int .i64 ((encs (El.cores s)).length:Int)):=by
  obtain ⟨K,hK⟩:∃ K,N + s.length + 19=K:=⟨_,rfl⟩
  rw [show N + s.length + 20=K + 1 from by omega]
  have L:=zloop K f s c ls (fun x hx h => B x hx K (by omega) 0 h) s 0 K 0 rfl (by omega) (by omega) (by omega) (by omega)
  have pv:AV.pureL (El.avs s)=true:=El.avs_pure s
  refine con_of E_fn161 (by simp [AV.pureL,AV.pure,pv]) (Nat.le_of_ble_eq_true rfl) rfl rfl (g:=[]) ?_
  rw [body_161,c161]
  simp [LpZ,bZ,lp,lps,c161,firstReg,SZ] at L
  simp [-s_round,L]
end F34
end
section
open Ab Go TabE Sp E34 F1 F4 F5 F31
namespace F35
def bO:Code:=lp c140 0
abbrev SO (f:Bool) (ps:List Int) (c:Option Nat) (i:Nat) (n:Int) (x:El):St:=⟨[(2,.ptr (1,2,0) 0),(8,.int .i64 n),(21,.sl f (ns ps) c),(22,.int .i64 (ps.length:Int)),(23,.int .i64 (i:Int))],[((1,2,0),bx (ec x))]⟩
theorem go (q k1:Nat) (f ps c) (i:Nat) (n:Int) (e x:El) (p:Nat) (hp:ps[i]? = some (p:Int)) (lp':ps.length ≤ 1000) (le:e.s.length ≤ 1000) (hx:e.s[p]? = some x) (n0:0 ≤ n) (n1:n ≤ 10000000) (A B:Int) (a0:0 ≤ A) (a1:A ≤ 1000000) (b0:0 ≤ B) (b1:B ≤ 1000000) (hq:10 ≤ q) (C1:∀ c h,aCall E q 0 161 [.sl false [e.av] c] h=some (.ret (.int .i64 A),h)) (C2:∀ f c h,aCall E q 0 161 [.sl f (El.avs (e.s.drop p)) c] h=some (.ret (.int .i64 B),h)):rnd fn140 bO q k1 (SO f ps c i n e)=some (.normal,SO f ps c (i + 1) (n + (A - B)) x):=by
  have hi:i < ps.length:=(List.getElem?_eq_some_iff.1 hp).1
  have hl:p < e.s.length:=(List.getElem?_eq_some_iff.1 hx).1
  have ip:=int_at f c ps i p hp
  have st:=F34.step_ok e x p le hx q hq 0
  have w:=w64' ((i:Int) + 1) (by omega) (by omega)
  have w2:=w64' (A - B) (by omega) (by omega)
  have w3:=w64' (n + (A - B)) (by omega) (by omega)
  have lv:=El.avs_len e.s
  have ln:=ns_len ps
  have hl2:p ≤ e.s.length:=by omega
  have gx:(El.avs e.s)[p]? = some x.av:=by rw [El.avs_map,List.getElem?_map,hx]; rfl
  have tk:List.take e.s.length (El.avs e.s)=El.avs e.s:=by rw [← El.avs_len e.s,List.take_length]
  have dr:List.drop p (El.avs e.s)=El.avs (e.s.drop p):=by rw [El.avs_map,El.avs_map,List.map_drop]
  rw [El.av_eq x] at gx
  have gx2:∀ h:p < (El.avs e.s).length,(El.avs e.s)[p]'h=.agg (ec x):=fun h => by rw [List.getElem?_eq_getElem h] at gx; exact Option.some.inj gx
  rw [El.av_eq e] at C1 st
  rw [El.av_eq x] at st
  simp [bO,lp,lps,c140,-indexAddrA,ip,w,w2,w3,hi,hl,lv,ln,st,C1,C2,hl2,gx,gx2,tk,dr]
abbrev BadO:AExit × St:=(.ret,⟨[(4,.int .i64 0),(5,.int .i64 19)],[]⟩)
theorem bad (q k1:Nat) (f ps c) (i:Nat) (n:Int) (e:El) (p:Int) (hp:ps[i]? = some p) (lp':ps.length ≤ 1000) (h:p < 0 ∨ (e.s.length:Int) ≤ p) (hq:10 ≤ q):rnd fn140 bO q k1 (SO f ps c i n e)=some BadO:=by
  have hi:i < ps.length:=(List.getElem?_eq_some_iff.1 hp).1
  have ip:=int_at f c ps i p hp
  have st:=F34.step_bad e p h q hq 0
  have ln:=ns_len ps
  rw [El.av_eq e] at st
  simp [bO,lp,lps,c140,-indexAddrA,ip,hi,ln,st]
theorem last (q k1:Nat) (f ps c) (n:Int) (e:El):rnd fn140 bO q k1 (SO f ps c ps.length n e)=some (.exit 0,⟨[(2,.ptr (1,2,0) 0),(8,.int .i64 n),(21,.sl f (ns ps) c),(22,.int .i64 (ps.length:Int)),(23,.int .i64 (ps.length:Int)),(24,.bool false)],[((1,2,0),bx (ec e))]⟩):=by
  have ln:=ns_len ps
  simp [bO,lp,lps,c140,ln]
end F35
end
end
section
open Ab Go TabE Sp E34 F1 F4 F5 F23 F31 F35
namespace F36
def ofs:El → List Int → Int
  | _,[] => 0
  | e,p :: r => (((enc e.core).length:Int) - (encs (El.cores (e.s.drop p.toNat))).length) + match e.s[p.toNat]? with
    | some x => ofs x r
    | none => 0
theorem put (e:El) (g:Gd e):∃ N,Con E N 95 [e.av] (.tup [.sl false (bs (enc e.core)) (some (enc e.core).length),.int .i64 0]):=E10.put_ok e g.ok g.sm g.chk (by have:=g.len; omega)
theorem drop_le (l:List El):∀ p,(encs (El.cores (l.drop p))).length ≤ (encs (El.cores l)).length:=by
  induction l with
  | nil => intro p; simp
  | cons x r ih =>
    intro p
    cases p with
    | zero => exact Nat.le_refl _
    | succ p =>
      have:=ih p
      rw [List.drop_succ_cons,El.cores,encs,List.length_append]; omega
theorem encs_le (e:El):(encs (El.cores e.s)).length ≤ (enc e.core).length:=by
  rw [enc_eq,List.length_append,List.length_append,List.length_append]; omega
theorem sizes (e:El) (g:Gd e) (p:Nat):∃ N,∀ K,N ≤ K → (∀ c h,aCall E K 0 161 [.sl false [e.av] c] h=some (.ret (.int .i64 ((enc e.core).length:Int)),h)) ∧ ∀ f c h,aCall E K 0 161 [.sl f (El.avs (e.s.drop p)) c] h=some (.ret (.int .i64 ((encs (El.cores (e.s.drop p))).length:Int)),h):=by
  obtain ⟨N1,h1⟩:=put e g
  obtain ⟨N2,h2⟩:=unif (P:=fun (x:El) (n:Nat) => Con E n 95 [x.av] (.tup [.sl false (bs (enc x.core)) (some (enc x.core).length),.int .i64 0])) (fun x n m h hm => h.mono hm) e.s (fun x hx => put x (g.sub hx))
  have l1:=g.len
  have l2:=drop_le e.s p
  have l3:=encs_le e
  have sl:=g.sl
  have ld:(e.s.drop p).length ≤ e.s.length:=by rw [List.length_drop]; omega
  refine ⟨N1 + N2 + 100,fun K hK => ⟨fun c h => ?_,fun f c h => ?_⟩⟩
  · have:=F34.size false [e] c (by simp) (by simp [El.cores,encs]; omega) N1 (fun x hx => by rw [List.mem_singleton.1 hx]; exact h1) K (by simp; omega) 0 h
    simpa [El.avs,El.cores,encs] using this
  · exact F34.size f (e.s.drop p) c (by omega) (by omega) N2 (fun x hx => h2 x (List.mem_of_mem_drop hx)) K (by omega) 0 h
end F36
end
section
open Ab Go TabE
attribute [local simp ↓] s_seq s_reg s_regd s_cond s_block s_cons s_consG s_regD
attribute [local simp] s_nil s_loop s_round s_lpn s_lpe s_lpr firstReg s_gt s_gf s_wb s_wu s_val s_valN s_skip s_calls s_callP s_cax lookR flatR pureKs s_ret s_rgx s_sqn s_sqr s_sqe s_cdb s_bkn s_bkr s_bke s_exit s_ret' s_skip' s_finr s_finn s_fin1 s_fix s_clean s_gc0 o_tmp o_int o_bool o_nil o_str o_fn o_nil' l_hit l_miss l_nil ol_nil ol_cons ol_some x_move x_assign x_pick pk_t pk_f x_bin bn_s x_un x_extract x_callF cl_no x_callB x_callBF frzV x_conv cvx convA frame0 binA intOp resL resA results1 sealLW AV.pure AV.pureL keepT x_alloc x_box bxx x_build bdx x_buildSlice bsx x_buildSliceF bsf x_load ldx x_store stx x_slice slx x_fieldAddr x_field x_index ixx x_indexAddr iax x_makeSlice msx x_makeSliceF msf x_nilCheck newK genOf setK lookK fillA writeL writeC readC conts TyI.mk1 sliceA boundsA boundsB fitsA numA indexAddrA fieldAddrA partA fieldA indexA appendA copyA builtinA AV.cells chunk gcH reach keysT keepK inKs AV.keys AV.keysL Ty.isAgg eq1 eqL convA.go ltI w_u8 w_u32 w_u64 w_i64 w_fdiv w_tdiv w_tmod IntKind.bits unA sc_int sc_bool sc_str sc_sl sc_ref sc_ptr sc_pel sc_nilp sc_fn sc_nilf sc_if sc_nili sc_agg sc_tup sc_mem bs_pure bs_kl bs_length bs_cells bs_all sl_row sealRow sealY sl_int sl_bool sl_str sl_sl sl_nilp sl_nilf sl_nili sl_pel sl_agg sl_tup sl_fn sl_if nat_1 bs_cons bs_nil i_beq i_bne x_mkF x_mkI x_tassert x_panic s_pan s_sqp s_bkp s_finp s_fixp s_lpp s_rgp s_retp s_site s_stxN s_stxO x_callT clx El.avs_len s_dyn0 s_rgy barOf dynChk footL dynOK disjK keysOp opVals Op.operands
section
open Ab Go TabE Sp E34 F1 F4 F5 F23 F31 F35 F36
namespace F37
abbrev LpO (K:Nat):=aLoop (aCode E (aCall E K) (dcall (aRun E K)) K 1 fn140 bO) (cleanS 1 ((firstReg bO).bind fn140.head))
abbrev OutO (f:Bool) (ps:List Int) (c:Option Nat) (n:Int) (e:El):AExit × St:=(.exit 0,⟨[(2,.ptr (1,2,0) 0),(8,.int .i64 n),(21,.sl f (ns ps) c),(22,.int .i64 (ps.length:Int)),(23,.int .i64 (ps.length:Int)),(24,.bool false)],[((1,2,0),bx (ec e))]⟩)
def End (f:Bool) (ps:List Int) (c:Option Nat) (n:Int):Option El → AExit × St
  | some x => OutO f ps c n x
  | none => BadO
theorem loop:∀ (r:List Int) (e:El),Gd e → ∃ N,∀ K,N ≤ K → ∀ (f:Bool) (ps:List Int) (c:Option Nat) (i k:Nat) (n:Int),ps.length ≤ 30 → ps.drop i=r → i ≤ ps.length → 0 ≤ n → n ≤ 60000 * i → r.length < k →
    LpO K k (SO f ps c i n e)=some (End f ps c (n + ofs e r) (E34.walk e r))
  | [],e,g => ⟨0,fun K hK f ps c i k n lp' h1 hi n0 n1 hk => by
    obtain ⟨k,rfl⟩:∃ j,k=j + 1:=⟨k - 1,by omega⟩
    have q:=congrArg List.length h1
    rw [List.length_drop,List.length_nil] at q
    obtain rfl:i=ps.length:=by omega
    have h:=aLoop_end (k:=k) (F35.last K K f ps c n e) (fun h => by cases h)
    unfold ofs E34.walk End
    simpa using h⟩
  | p :: r,e,g => by
    have sl:=g.sl
    have st:∀ (K:Nat) (f:Bool) (ps:List Int) (c:Option Nat) (i:Nat),ps.drop i=p :: r → ps[i]? = some p:=fun K f ps c i h1 => by
      have:=congrArg (fun l => l[0]?) h1
      simpa [List.getElem?_drop] using this
    by_cases hb:p < 0 ∨ (e.s.length:Int) ≤ p
    · refine ⟨20,fun K hK f ps c i k n lp' h1 hi n0 n1 hk => ?_⟩
      obtain ⟨k,rfl⟩:∃ j,k=j + 1:=⟨k - 1,by omega⟩
      have h:=aLoop_end (k:=k) (F35.bad K K f ps c i n e p (st K f ps c i h1) (by omega) hb (by omega)) (fun h => by cases h)
      have hw:E34.walk e (p :: r)=none:=by
        unfold E34.walk
        by_cases h0:p < 0
        · rw [if_pos h0]
        · rw [if_neg h0,List.getElem?_eq_none_iff.2 (by omega)]
      rw [hw]
      exact h
    · obtain ⟨m,rfl⟩:∃ m:Nat,p=m:=⟨p.toNat,by omega⟩
      have hm:m < e.s.length:=by omega
      have hx:=List.getElem?_eq_getElem hm
      obtain ⟨x,hxx⟩:∃ x,e.s[m]=x:=⟨_,rfl⟩
      rw [hxx] at hx
      have gx:=g.sub (List.mem_of_getElem? hx)
      obtain ⟨N1,h1⟩:=sizes e g m
      obtain ⟨N2,h2⟩:=loop r x gx
      refine ⟨N1 + N2 + 20,fun K hK f ps c i k n lp' h1' hi n0 n1 hk => ?_⟩
      obtain ⟨k,rfl⟩:∃ j,k=j + 1:=⟨k - 1,by omega⟩
      have hd:ps.drop (i + 1)=r:=by
        have:=congrArg List.tail h1'
        simpa [List.tail_drop] using this
      have q:=congrArg List.length h1'
      rw [List.length_drop,List.length_cons] at q
      have l1:=g.len
      have l2:=drop_le e.s m
      have l3:=encs_le e
      obtain ⟨c1,c2⟩:=h1 K (by omega)
      have s:=F35.go K K f ps c i n e x m (st K f ps c i h1') (by omega) (by omega) hx n0 (by omega) _ _ (by omega) (by omega) (by omega) (by omega) (by omega) c1 c2
      unfold LpO
      rw [aLoop_succ s]
      have h:=h2 K (by omega) f ps c (i + 1) k (n + (((enc e.core).length:Int) - (encs (El.cores (e.s.drop m))).length)) lp' hd (by omega) (by omega) (by push_cast; omega) (by simp at hk; omega)
      unfold LpO at h
      rw [h]
      have hw:E34.walk e ((m:Int) :: r)=E34.walk x r:=by
        conv => lhs; unfold E34.walk
        rw [if_neg (by omega),Int.toNat_natCast,hx]
      have ho:ofs e ((m:Int) :: r)=(((enc e.core).length:Int) - (encs (El.cores (e.s.drop m))).length) + ofs x r:=by
        conv => lhs; unfold ofs
        rw [Int.toNat_natCast,hx]
      rw [hw,ho,Int.add_assoc]
theorem offset (e:El) (g:Gd e) (f:Bool) (ps:List Int) (c:Option Nat) (lp':ps.length ≤ 30):∃ N,Con E N 140 [e.av,.sl f (ns ps) c] (match E34.walk e ps with
    | some _ => .tup [.int .i64 (ofs e ps),.int .i64 0]
    | none => .tup [.int .i64 0,.int .i64 19]):=by
  obtain ⟨N1,h1⟩:=loop ps e g
  obtain ⟨N2,h2⟩:=put e g
  obtain ⟨K,hK⟩:∃ K,N1 + N2 + 60=K:=⟨_,rfl⟩
  have L:=h1 K (by omega) f ps c 0 K 0 lp' rfl (by omega) (by omega) (by omega) (by omega)
  have w:=h2 K (by omega) 0
  rw [El.av_eq] at w
  rw [Int.zero_add] at L
  have pn:=ns_pure ps
  have ln:=ns_len ps
  refine ⟨K + 1,con_of E_fn140 (by simp [AV.pureL,AV.pure,El.av_pure,pn]) (Nat.le_of_ble_eq_true rfl) rfl rfl (g:=[]) ?_⟩
  rw [body_140,c140]
  simp [LpO,bO,lp,lps,c140,firstReg,SO,ec] at L
  cases hw:E34.walk e ps with
  | none =>
    rw [hw] at L
    simp [El.av_eq,-s_round,L,w,End,ln]
  | some x =>
    rw [hw] at L
    simp [El.av_eq,-s_round,L,w,End,ln]
end F37
end
end
