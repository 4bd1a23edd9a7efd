/- algorithms.Of at the evaluator: its cases. Written by gA2.py. No conditions. -/
import Derived.Test.YtbiildmljbcmeaaDoorA1
open Ab Go TabE Sp E34 F1 Rw F5 F6 F7 F8 F43 F47 AP A1
set_option maxRecDepth 20000
set_option linter.unusedSimpArgs false
set_option linter.unusedVariables false
set_option maxHeartbeats 8000000
namespace A2
abbrev Ck (K:Nat) (e:El) (w:Int):Prop:=∀ h,aCall E K 0 22 [e.av] h=some (.ret (.int .i64 w),h)
abbrev Og (K:Nat) (x:El) (n x0 x1 x2 x3 x4 x5 x6 x7 x8 x9 x10 x11 x12 x13 x14 x15 w:Int):Prop:=∀ h,aCall E K 0 66 [.sl x.fb (bs x.b) x.cb] h=some (.ret (.tup [.agg [.int .u8 n,.int .u32 x0,.int .u32 x1,.int .u32 x2,.int .u32 x3,.int .u32 x4,.int .u32 x5,.int .u32 x6,.int .u32 x7,.int .u32 x8,.int .u32 x9,.int .u32 x10,.int .u32 x11,.int .u32 x12,.int .u32 x13,.int .u32 x14,.int .u32 x15],.int .i64 w]),h)
abbrev Cl (K:Nat) (y:El):Prop:=∀ h,aCall E K 0 70 [y.av] h=some (.ret (clo y).av,h)
theorem i0 (f a r c):∀ h,indexAddrA E 38 (.sl f (.int .i64 a :: r) c) (.int .i64 0) h=some (.pel [.int .i64 a]):=fun h => by
  simp [indexAddrA,AV.cells,sc_int,E_ty38,E_ty3]
theorem i1 (f a b r c):∀ h,indexAddrA E 38 (.sl f (a :: .int .i64 b :: r) c) (.int .i64 1) h=some (.pel [.int .i64 b]):=fun h => by
  have e:(1:Int) < (r.length:Int) + 1 + 1:=by omega
  simp [indexAddrA,AV.cells,sc_int,E_ty38,E_ty3,e]
theorem o_glob {E:Env} {t:Fr} {g}:opd E t (.global g)=(E.glob g).map .pel:=rfl
abbrev ag (n x0 x1 x2 x3 x4 x5 x6 x7 x8 x9 x10 x11 x12 x13 x14 x15:Int) (b:Bool) (p:El):AV:=.agg [.int .u8 n,.int .u32 x0,.int .u32 x1,.int .u32 x2,.int .u32 x3,.int .u32 x4,.int .u32 x5,.int .u32 x6,.int .u32 x7,.int .u32 x8,.int .u32 x9,.int .u32 x10,.int .u32 x11,.int .u32 x12,.int .u32 x13,.int .u32 x14,.int .u32 x15,.bool b,.int .u8 p.c,.bool p.k,.int .u32 p.n,.sl p.fb (bs p.b) p.cb,.sl p.fs (El.avs p.s) p.cs]
abbrev zag:AV:=.agg [.int .u8 0,.int .u32 0,.int .u32 0,.int .u32 0,.int .u32 0,.int .u32 0,.int .u32 0,.int .u32 0,.int .u32 0,.int .u32 0,.int .u32 0,.int .u32 0,.int .u32 0,.int .u32 0,.int .u32 0,.int .u32 0,.int .u32 0,.bool false,.int .u8 0,.bool false,.int .u32 0,.sl true [] (some 0),.sl true [] (some 0)]
abbrev Sq (K:Nat) (e:El) (v:AV):Prop:=∀ c h,aCall E K 0 69 [e.av,.agg [.int .u8 0,.bool true,.int .u32 16],.sl false [.agg [.int .u8 0,.bool false,.int .u32 6,.bool false,.bool false],.agg [.int .u8 0,.bool false,.int .u32 0,.bool true,.bool true]] c] h=some (.ret v,h)
abbrev R (n x0 x1 x2 x3 x4 x5 x6 x7 x8 x9 x10 x11 x12 x13 x14 x15:Int) (b:Bool) (p:El):AV:=.tup [ag n x0 x1 x2 x3 x4 x5 x6 x7 x8 x9 x10 x11 x12 x13 x14 x15 b p,fF [] 0]
abbrev R0 (q:List Int) (w:Int):AV:=.tup [zag,fF q w]
abbrev qo (a b:Int):AV:=.tup [.sl false [.int .i64 a,.int .i64 b] (some 2),.agg [.sl true [] (some 0),.int .i64 0]]
theorem chk (K:Nat) (hK:60 ≤ K) (e:El) (w:Int) (hw:w ≠ 0) (C:Ck K e w):Con E (K + 1) 15 [e.av] (R0 [] w):=by
  have F0:=fun w => A1.fnil w K (by omega) 0
  have F1:=fun w c => A1.fone w 0 c K (by omega) 0
  try simp at F0
  try simp at F1
  refine con_of E_fn15 (by simp [AV.pureL,El.av_pure]) (Nat.le_of_ble_eq_true rfl) rfl rfl (g:=[]) ?_
  rw [body_15,c15]
  unfold Ck at C; rw [El.av_eq] at C ⊢
  simp [↓s_seq,↓s_reg,↓s_cond,↓s_cons,s_nil,s_val,s_skip,s_calls,s_cax,s_ret,s_rgx,s_sqn,s_sqr,s_cdb,s_ret',s_finr,s_fin1,s_fix,s_clean,o_tmp,o_int,o_nil,l_hit,l_miss,ol_nil,ol_cons,ol_some,x_move,x_assign,x_bin,bn_s,x_callF,cl_no,frame0,binA,intOp,resL,resA,results1,sealLW,AV.pure,AV.pureL,keepT,x_alloc,x_box,bxx,x_build,bdx,x_load,ldx,x_store,stx,newK,genOf,setK,lookK,fillA,writeL,writeC,readC,TyI.mk1,AV.cells,gcH,reach,keysT,keepK,inKs,AV.keys,AV.keysL,Ty.isAgg,sc_int,sc_bool,sc_sl,sl_int,sl_sl,sl_agg,sl_tup,i_bne,C,hw,F0]
theorem seq (K:Nat) (hK:60 ≤ K) (e:El) (p:List Int) (w:Int) (hw:w ≠ 0) (C:Ck K e 0) (S:Sq K e (.tup [.sl true [] (some 0),fF p w])):Con E (K + 1) 15 [e.av] (R0 p w):=by
  have F0:=fun w => A1.fnil w K (by omega) 0
  have F1:=fun w c => A1.fone w 0 c K (by omega) 0
  try simp at F0
  try simp at F1
  have np:=ns_pure p
  refine con_of E_fn15 (by simp [AV.pureL,El.av_pure]) (Nat.le_of_ble_eq_true rfl) rfl rfl (g:=[]) ?_
  rw [body_15,c15]
  unfold Ck at C; unfold Sq at S; rw [El.av_eq] at C S
  rw [El.av_eq]
  simp [↓s_seq,↓s_reg,↓s_cond,↓s_cons,s_nil,s_val,s_skip,s_calls,s_cax,s_ret,s_rgx,s_sqn,s_sqr,s_cdb,s_ret',s_skip',s_finr,s_fin1,s_fix,s_clean,o_tmp,o_int,o_bool,l_hit,l_miss,ol_nil,ol_cons,ol_some,x_move,x_assign,x_bin,bn_s,x_extract,x_callF,cl_no,frame0,binA,intOp,resL,resA,results1,sealLW,AV.pure,AV.pureL,keepT,x_alloc,x_box,bxx,x_build,bdx,x_buildSliceF,bsf,x_load,ldx,x_store,stx,x_fieldAddr,newK,genOf,setK,lookK,fillA,writeL,writeC,readC,TyI.mk1,fieldAddrA,AV.cells,chunk,gcH,reach,keysT,keepK,inKs,AV.keys,AV.keysL,Ty.isAgg,sc_int,sc_bool,sc_sl,sl_sl,sl_agg,sl_tup,i_bne,↓s_regD,s_rgy,barOf,dynChk,footL,dynOK,disjK,keysOp,opVals,Op.operands,C,hw,S,o_glob]
theorem get1 (k:Nat) (hK:60 ≤ k) (e x:El) (n x0 x1 x2 x3 x4 x5 x6 x7 x8 x9 x10 x11 x12 x13 x14 x15 w:Int) (hw:w ≠ 0) (hs:e.s=[x]) (C:Ck (k + 10) e 0) (S:Sq (k + 10) e (qo 0 (-1))) (B:Og (k + 10) x n x0 x1 x2 x3 x4 x5 x6 x7 x8 x9 x10 x11 x12 x13 x14 x15 w):Con E (k + 10 + 1) 15 [e.av] (R0 [0] w):=by
  have F0:=fun w => A1.fnil w (k + 10) (by omega) 0
  have F1:=fun w c => A1.fone w 0 c (k + 10) (by omega) 0
  try simp at F0
  try simp at F1
  have x0:=El.at_ e.fs e.cs [x] 0 x rfl
  simp [El.avs] at x0
  refine con_of E_fn15 (by simp [AV.pureL,El.av_pure]) (Nat.le_of_ble_eq_true rfl) rfl rfl (g:=[]) ?_
  rw [body_15,c15]
  unfold Ck at C; unfold Sq at S; rw [El.av_eq,hs] at C S
  rw [El.av_eq,hs]
  unfold Og at B
  simp [El.avs] at C S
  simp [↓s_seq,↓s_reg,↓s_cond,↓s_cons,s_nil,s_val,s_skip,s_calls,s_cax,s_ret,s_rgx,s_sqn,s_sqr,s_cdb,s_ret',s_skip',s_finr,s_fin1,s_fix,s_clean,o_tmp,o_int,o_bool,l_hit,l_miss,ol_nil,ol_cons,ol_some,x_move,x_assign,x_bin,bn_s,x_extract,x_callF,cl_no,frame0,binA,intOp,resL,resA,results1,sealLW,AV.pure,AV.pureL,keepT,x_alloc,x_box,bxx,x_build,bdx,x_buildSliceF,bsf,x_load,ldx,x_store,stx,x_fieldAddr,x_indexAddr,iax,newK,genOf,setK,lookK,fillA,writeL,writeC,readC,TyI.mk1,fieldAddrA,AV.cells,chunk,gcH,reach,keysT,keepK,inKs,AV.keys,AV.keysL,Ty.isAgg,sc_int,sc_bool,sc_sl,sl_int,sl_sl,sl_agg,sl_tup,i_bne,C,S,B,hw,F1,o_glob,El.avs,x0]
theorem get2 (k:Nat) (hK:60 ≤ k) (e x y:El) (n x0 x1 x2 x3 x4 x5 x6 x7 x8 x9 x10 x11 x12 x13 x14 x15 w:Int) (hw:w ≠ 0) (hs:e.s=[x,y]) (C:Ck (k + 10) e 0) (S:Sq (k + 10) e (qo 0 1)) (B:Og (k + 10) x n x0 x1 x2 x3 x4 x5 x6 x7 x8 x9 x10 x11 x12 x13 x14 x15 w):Con E (k + 10 + 1) 15 [e.av] (R0 [0] w):=by
  have F0:=fun w => A1.fnil w (k + 10) (by omega) 0
  have F1:=fun w c => A1.fone w 0 c (k + 10) (by omega) 0
  try simp at F0
  try simp at F1
  have x0:=El.at_ e.fs e.cs [x,y] 0 x rfl
  have x1:=El.at_ e.fs e.cs [x,y] 1 y rfl
  simp [El.avs] at x0 x1
  refine con_of E_fn15 (by simp [AV.pureL,El.av_pure]) (Nat.le_of_ble_eq_true rfl) rfl rfl (g:=[]) ?_
  rw [body_15,c15]
  unfold Ck at C; unfold Sq at S; rw [El.av_eq,hs] at C S
  rw [El.av_eq,hs]
  unfold Og at B
  simp [El.avs] at C S
  simp [↓s_seq,↓s_reg,↓s_cond,↓s_cons,s_nil,s_val,s_skip,s_calls,s_cax,s_ret,s_rgx,s_sqn,s_sqr,s_cdb,s_ret',s_skip',s_finr,s_fin1,s_fix,s_clean,o_tmp,o_int,o_bool,l_hit,l_miss,ol_nil,ol_cons,ol_some,x_move,x_assign,x_bin,bn_s,x_extract,x_callF,cl_no,frame0,binA,intOp,resL,resA,results1,sealLW,AV.pure,AV.pureL,keepT,x_alloc,x_box,bxx,x_build,bdx,x_buildSliceF,bsf,x_load,ldx,x_store,stx,x_fieldAddr,x_indexAddr,iax,newK,genOf,setK,lookK,fillA,writeL,writeC,readC,TyI.mk1,fieldAddrA,AV.cells,chunk,gcH,reach,keysT,keepK,inKs,AV.keys,AV.keysL,Ty.isAgg,sc_int,sc_bool,sc_sl,sl_int,sl_sl,sl_agg,sl_tup,i_bne,C,S,B,hw,F1,o_glob,El.avs,x0]
theorem ok1 (k:Nat) (hK:60 ≤ k) (e x:El) (n x0 x1 x2 x3 x4 x5 x6 x7 x8 x9 x10 x11 x12 x13 x14 x15:Int) (hs:e.s=[x]) (C:Ck (k + 10) e 0) (S:Sq (k + 10) e (qo 0 (-1))) (B:Og (k + 10) x n x0 x1 x2 x3 x4 x5 x6 x7 x8 x9 x10 x11 x12 x13 x14 x15 0):Con E (k + 10 + 1) 15 [e.av] (R n x0 x1 x2 x3 x4 x5 x6 x7 x8 x9 x10 x11 x12 x13 x14 x15 false E32.z0):=by
  have F0:=fun w => A1.fnil w (k + 10) (by omega) 0
  have F1:=fun w c => A1.fone w 0 c (k + 10) (by omega) 0
  try simp at F0
  try simp at F1
  have x0:=El.at_ e.fs e.cs [x] 0 x rfl
  simp [El.avs] at x0
  refine con_of E_fn15 (by simp [AV.pureL,El.av_pure]) (Nat.le_of_ble_eq_true rfl) rfl rfl (g:=[]) ?_
  rw [body_15,c15]
  unfold Ck at C; unfold Sq at S; rw [El.av_eq,hs] at C S
  rw [El.av_eq,hs]
  unfold Og at B
  simp [El.avs] at C S
  simp [↓s_seq,↓s_reg,↓s_cond,↓s_cons,s_nil,s_val,s_skip,s_calls,s_cax,s_ret,s_rgx,s_sqn,s_cdb,s_ret',s_skip',s_finr,s_fin1,s_fix,s_clean,o_tmp,o_int,o_bool,l_hit,l_miss,ol_nil,ol_cons,ol_some,x_move,x_assign,x_bin,bn_s,x_extract,x_callF,cl_no,frame0,binA,intOp,resL,resA,results1,sealLW,AV.pure,AV.pureL,keepT,x_alloc,x_box,bxx,x_build,bdx,x_buildSliceF,bsf,x_load,ldx,x_store,stx,x_fieldAddr,x_indexAddr,iax,newK,genOf,setK,lookK,fillA,writeL,writeC,readC,TyI.mk1,fieldAddrA,AV.cells,chunk,gcH,reach,keysT,keepK,inKs,AV.keys,AV.keysL,Ty.isAgg,sc_int,sc_bool,sc_sl,sl_sl,sl_agg,sl_tup,i_beq,↓s_regD,s_rgy,barOf,dynChk,C,S,B,o_glob,El.avs,i1,x0]
  first | exact ⟨rfl,rfl,rfl,⟨rfl,rfl,rfl⟩,rfl,rfl,rfl⟩ | rfl
theorem ok2 (k:Nat) (hK:60 ≤ k) (e x y:El) (n x0 x1 x2 x3 x4 x5 x6 x7 x8 x9 x10 x11 x12 x13 x14 x15:Int) (hs:e.s=[x,y]) (C:Ck (k + 10) e 0) (S:Sq (k + 10) e (qo 0 1)) (B:Og (k + 10) x n x0 x1 x2 x3 x4 x5 x6 x7 x8 x9 x10 x11 x12 x13 x14 x15 0) (L:Cl (k + 10) y):Con E (k + 10 + 1) 15 [e.av] (R n x0 x1 x2 x3 x4 x5 x6 x7 x8 x9 x10 x11 x12 x13 x14 x15 true (clo y)):=by
  have F0:=fun w => A1.fnil w (k + 10) (by omega) 0
  have F1:=fun w c => A1.fone w 0 c (k + 10) (by omega) 0
  try simp at F0
  try simp at F1
  have x0:=El.at_ e.fs e.cs [x,y] 0 x rfl
  have x1:=El.at_ e.fs e.cs [x,y] 1 y rfl
  simp [El.avs] at x0 x1
  refine con_of E_fn15 (by simp [AV.pureL,El.av_pure]) (Nat.le_of_ble_eq_true rfl) rfl rfl (g:=[]) ?_
  rw [body_15,c15]
  unfold Ck at C; unfold Sq at S; rw [El.av_eq,hs] at C S
  rw [El.av_eq,hs]
  unfold Og at B
  unfold Cl at L; rw [El.av_eq y,El.av_eq (clo y)] at L
  simp [El.avs] at C S
  simp [↓s_seq,↓s_reg,↓s_cond,↓s_cons,s_nil,s_val,s_skip,s_calls,s_cax,s_ret,s_rgx,s_sqn,s_cdb,s_ret',s_skip',s_finr,s_fin1,s_fix,s_clean,o_tmp,o_int,o_bool,l_hit,l_miss,ol_nil,ol_cons,ol_some,x_move,x_assign,x_bin,bn_s,x_extract,x_callF,cl_no,frame0,binA,intOp,resL,resA,results1,sealLW,AV.pure,AV.pureL,keepT,x_alloc,x_box,bxx,x_build,bdx,x_buildSliceF,bsf,x_load,ldx,x_store,stx,x_fieldAddr,x_indexAddr,iax,newK,genOf,setK,lookK,fillA,writeL,writeC,readC,TyI.mk1,fieldAddrA,AV.cells,chunk,gcH,reach,keysT,keepK,inKs,AV.keys,AV.keysL,Ty.isAgg,sc_int,sc_bool,sc_sl,sl_sl,sl_agg,sl_tup,↓s_regD,s_rgy,barOf,dynChk,C,S,B,L,o_glob,El.avs,i1,x0,x1]
end A2
