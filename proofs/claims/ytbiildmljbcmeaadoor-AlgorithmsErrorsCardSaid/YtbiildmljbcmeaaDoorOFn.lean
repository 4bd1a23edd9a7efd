/- Own work, no conditions. -/
import Derived.Test.YtbiildmljbcmeaaDoorA1
import Derived.Test.YtbiildmljbcmeaaDoorF23
import Derived.Test.YtbiildmljbcmeaaDoorF2
import Derived.Test.YtbiildmljbcmeaaDoorB40e
import Derived.Test.YtbiildmljbcmeaaDoorSq
set_option maxRecDepth 20000
set_option linter.unusedSimpArgs false
set_option linter.unusedVariables false
set_option maxHeartbeats 16000000
section
open Ab Go TabE Sp E34 F1 Rw F5 F6 F7 F8 F43 F47 AP A1
namespace A2
abbrev Ck (K:Nat) (e:El) (w:Int):Prop:=∀ h,aCall E K 0 22 [e.av] h=some (.ret (.int .i64 w),h)
abbrev Og (K:Nat) (x:El) (n x0 x1 x2 x3 x4 x5 x6 x7 x8 x9 x10 x11 x12 x13 x14 x15 w:Int):Prop:=∀ h,aCall E K 0 66 [.sl x.fb (bs x.b) x.cb] h=some (.ret (.tup [.agg [.int .u8 n,.int .u32 x0,.int .u32 x1,.int .u32 x2,.int .u32 x3,.int .u32 x4,.int .u32 x5,.int .u32 x6,.int .u32 x7,.int .u32 x8,.int .u32 x9,.int .u32 x10,.int .u32 x11,.int .u32 x12,.int .u32 x13,.int .u32 x14,.int .u32 x15],.int .i64 w]),h)
abbrev Cl (K:Nat) (y:El):Prop:=∀ h,aCall E K 0 70 [y.av] h=some (.ret (clo y).av,h)
theorem i0 (f a r c):∀ h,indexAddrA E 38 (.sl f (.int .i64 a :: r) c) (.int .i64 0) h=some (.pel [.int .i64 a]):=fun h => by
  simp [indexAddrA,AV.cells,sc_int,E_ty38,E_ty3]
theorem i1 (f a b r c):∀ h,indexAddrA E 38 (.sl f (a :: .int .i64 b :: r) c) (.int .i64 1) h=some (.pel [.int .i64 b]):=fun h => by
  have e:(1:Int) < (r.length:Int) + 1 + 1:=by omega
  simp [indexAddrA,AV.cells,sc_int,E_ty38,E_ty3,e]
theorem o_glob {E:Env} {t:Fr} {g}:opd E t (.global g)=(E.glob g).map .pel:=rfl
abbrev ag (n x0 x1 x2 x3 x4 x5 x6 x7 x8 x9 x10 x11 x12 x13 x14 x15:Int) (b:Bool) (p:El):AV:=.agg [.int .u8 n,.int .u32 x0,.int .u32 x1,.int .u32 x2,.int .u32 x3,.int .u32 x4,.int .u32 x5,.int .u32 x6,.int .u32 x7,.int .u32 x8,.int .u32 x9,.int .u32 x10,.int .u32 x11,.int .u32 x12,.int .u32 x13,.int .u32 x14,.int .u32 x15,.bool b,.int .u8 p.c,.bool p.k,.int .u32 p.n,.sl p.fb (bs p.b) p.cb,.sl p.fs (El.avs p.s) p.cs]
abbrev zag:AV:=.agg [.int .u8 0,.int .u32 0,.int .u32 0,.int .u32 0,.int .u32 0,.int .u32 0,.int .u32 0,.int .u32 0,.int .u32 0,.int .u32 0,.int .u32 0,.int .u32 0,.int .u32 0,.int .u32 0,.int .u32 0,.int .u32 0,.int .u32 0,.bool false,.int .u8 0,.bool false,.int .u32 0,.sl true [] (some 0),.sl true [] (some 0)]
abbrev Sq (K:Nat) (e:El) (v:AV):Prop:=∀ c h,aCall E K 0 69 [e.av,.agg [.int .u8 0,.bool true,.int .u32 16],.sl false [.agg [.int .u8 0,.bool false,.int .u32 6,.bool false,.bool false],.agg [.int .u8 0,.bool false,.int .u32 0,.bool true,.bool true]] c] h=some (.ret v,h)
abbrev R (n x0 x1 x2 x3 x4 x5 x6 x7 x8 x9 x10 x11 x12 x13 x14 x15:Int) (b:Bool) (p:El):AV:=.tup [ag n x0 x1 x2 x3 x4 x5 x6 x7 x8 x9 x10 x11 x12 x13 x14 x15 b p,fF [] 0]
abbrev R0 (q:List Int) (w:Int):AV:=.tup [zag,fF q w]
abbrev qo (a b:Int):AV:=.tup [.sl false [.int .i64 a,.int .i64 b] (some 2),.agg [.sl true [] (some 0),.int .i64 0]]
theorem chk (K:Nat) (hK:60 ≤ K) (e:El) (w:Int) (hw:w ≠ 0) (C:Ck K e w):Con E (K + 1) 15 [e.av] (R0 [] w):=by
  have F0:=fun w => A1.fnil w K (by omega) 0
  have F1:=fun w c => A1.fone w 0 c K (by omega) 0
  try simp at F0
  try simp at F1
  refine con_of E_fn15 (by simp [AV.pureL,El.av_pure]) (Nat.le_of_ble_eq_true rfl) rfl rfl (g:=[]) ?_
  rw [body_15,c15]
  unfold Ck at C; rw [El.av_eq] at C ⊢
  simp [↓s_seq,↓s_reg,↓s_cond,↓s_cons,s_nil,s_val,s_skip,s_calls,s_cax,s_ret,s_rgx,s_sqn,s_sqr,s_cdb,s_ret',s_finr,s_fin1,s_fix,s_clean,o_tmp,o_int,o_nil,l_hit,l_miss,ol_nil,ol_cons,ol_some,x_move,x_assign,x_bin,bn_s,x_callF,cl_no,frame0,binA,intOp,resL,resA,results1,sealLW,AV.pure,AV.pureL,keepT,x_alloc,x_box,bxx,x_build,bdx,x_load,ldx,x_store,stx,newK,genOf,setK,lookK,fillA,writeL,writeC,readC,TyI.mk1,AV.cells,gcH,reach,keysT,keepK,inKs,AV.keys,AV.keysL,Ty.isAgg,sc_int,sc_bool,sc_sl,sl_int,sl_sl,sl_agg,sl_tup,i_bne,C,hw,F0]
theorem seq (K:Nat) (hK:60 ≤ K) (e:El) (p:List Int) (w:Int) (hw:w ≠ 0) (C:Ck K e 0) (S:Sq K e (.tup [.sl true [] (some 0),fF p w])):Con E (K + 1) 15 [e.av] (R0 p w):=by
  have F0:=fun w => A1.fnil w K (by omega) 0
  have F1:=fun w c => A1.fone w 0 c K (by omega) 0
  try simp at F0
  try simp at F1
  have np:=ns_pure p
  refine con_of E_fn15 (by simp [AV.pureL,El.av_pure]) (Nat.le_of_ble_eq_true rfl) rfl rfl (g:=[]) ?_
  rw [body_15,c15]
  unfold Ck at C; unfold Sq at S; rw [El.av_eq] at C S
  rw [El.av_eq]
  simp [↓s_seq,↓s_reg,↓s_cond,↓s_cons,s_nil,s_val,s_skip,s_calls,s_cax,s_ret,s_rgx,s_sqn,s_sqr,s_cdb,s_ret',s_skip',s_finr,s_fin1,s_fix,s_clean,o_tmp,o_int,o_bool,l_hit,l_miss,ol_nil,ol_cons,ol_some,x_move,x_assign,x_bin,bn_s,x_extract,x_callF,cl_no,frame0,binA,intOp,resL,resA,results1,sealLW,AV.pure,AV.pureL,keepT,x_alloc,x_box,bxx,x_build,bdx,x_buildSliceF,bsf,x_load,ldx,x_store,stx,x_fieldAddr,newK,genOf,setK,lookK,fillA,writeL,writeC,readC,TyI.mk1,fieldAddrA,AV.cells,chunk,gcH,reach,keysT,keepK,inKs,AV.keys,AV.keysL,Ty.isAgg,sc_int,sc_bool,sc_sl,sl_sl,sl_agg,sl_tup,i_bne,↓s_regD,s_rgy,barOf,dynChk,footL,dynOK,disjK,keysOp,opVals,Op.operands,C,hw,S,o_glob]
theorem get1 (k:Nat) (hK:60 ≤ k) (e x:El) (n x0 x1 x2 x3 x4 x5 x6 x7 x8 x9 x10 x11 x12 x13 x14 x15 w:Int) (hw:w ≠ 0) (hs:e.s=[x]) (C:Ck (k + 10) e 0) (S:Sq (k + 10) e (qo 0 (-1))) (B:Og (k + 10) x n x0 x1 x2 x3 x4 x5 x6 x7 x8 x9 x10 x11 x12 x13 x14 x15 w):Con E (k + 10 + 1) 15 [e.av] (R0 [0] w):=by
  have F0:=fun w => A1.fnil w (k + 10) (by omega) 0
  have F1:=fun w c => A1.fone w 0 c (k + 10) (by omega) 0
  try simp at F0
  try simp at F1
  have x0:=El.at_ e.fs e.cs [x] 0 x rfl
  simp [El.avs] at x0
  refine con_of E_fn15 (by simp [AV.pureL,El.av_pure]) (Nat.le_of_ble_eq_true rfl) rfl rfl (g:=[]) ?_
  rw [body_15,c15]
  unfold Ck at C; unfold Sq at S; rw [El.av_eq,hs] at C S
  rw [El.av_eq,hs]
  unfold Og at B
  simp [El.avs] at C S
  simp [↓s_seq,↓s_reg,↓s_cond,↓s_cons,s_nil,s_val,s_skip,s_calls,s_cax,s_ret,s_rgx,s_sqn,s_sqr,s_cdb,s_ret',s_skip',s_finr,s_fin1,s_fix,s_clean,o_tmp,o_int,o_bool,l_hit,l_miss,ol_nil,ol_cons,ol_some,x_move,x_assign,x_bin,bn_s,x_extract,x_callF,cl_no,frame0,binA,intOp,resL,resA,results1,sealLW,AV.pure,AV.pureL,keepT,x_alloc,x_box,bxx,x_build,bdx,x_buildSliceF,bsf,x_load,ldx,x_store,stx,x_fieldAddr,x_indexAddr,iax,newK,genOf,setK,lookK,fillA,writeL,writeC,readC,TyI.mk1,fieldAddrA,AV.cells,chunk,gcH,reach,keysT,keepK,inKs,AV.keys,AV.keysL,Ty.isAgg,sc_int,sc_bool,sc_sl,sl_int,sl_sl,sl_agg,sl_tup,i_bne,C,S,B,hw,F1,o_glob,El.avs,x0]
theorem get2 (k:Nat) (hK:60 ≤ k) (e x y:El) (n x0 x1 x2 x3 x4 x5 x6 x7 x8 x9 x10 x11 x12 x13 x14 x15 w:Int) (hw:w ≠ 0) (hs:e.s=[x,y]) (C:Ck (k + 10) e 0) (S:Sq (k + 10) e (qo 0 1)) (B:Og (k + 10) x n x0 x1 x2 x3 x4 x5 x6 x7 x8 x9 x10 x11 x12 x13 x14 x15 w):Con E (k + 10 + 1) 15 [e.av] (R0 [0] w):=by
  have F0:=fun w => A1.fnil w (k + 10) (by omega) 0
  have F1:=fun w c => A1.fone w 0 c (k + 10) (by omega) 0
  try simp at F0
  try simp at F1
  have x0:=El.at_ e.fs e.cs [x,y] 0 x rfl
  have x1:=El.at_ e.fs e.cs [x,y] 1 y rfl
  simp [El.avs] at x0 x1
  refine con_of E_fn15 (by simp [AV.pureL,El.av_pure]) (Nat.le_of_ble_eq_true rfl) rfl rfl (g:=[]) ?_
  rw [body_15,c15]
  unfold Ck at C; unfold Sq at S; rw [El.av_eq,hs] at C S
  rw [El.av_eq,hs]
  unfold Og at B
  simp [El.avs] at C S
  simp [↓s_seq,↓s_reg,↓s_cond,↓s_cons,s_nil,s_val,s_skip,s_calls,s_cax,s_ret,s_rgx,s_sqn,s_sqr,s_cdb,s_ret',s_skip',s_finr,s_fin1,s_fix,s_clean,o_tmp,o_int,o_bool,l_hit,l_miss,ol_nil,ol_cons,ol_some,x_move,x_assign,x_bin,bn_s,x_extract,x_callF,cl_no,frame0,binA,intOp,resL,resA,results1,sealLW,AV.pure,AV.pureL,keepT,x_alloc,x_box,bxx,x_build,bdx,x_buildSliceF,bsf,x_load,ldx,x_store,stx,x_fieldAddr,x_indexAddr,iax,newK,genOf,setK,lookK,fillA,writeL,writeC,readC,TyI.mk1,fieldAddrA,AV.cells,chunk,gcH,reach,keysT,keepK,inKs,AV.keys,AV.keysL,Ty.isAgg,sc_int,sc_bool,sc_sl,sl_int,sl_sl,sl_agg,sl_tup,i_bne,C,S,B,hw,F1,o_glob,El.avs,x0]
theorem ok1 (k:Nat) (hK:60 ≤ k) (e x:El) (n x0 x1 x2 x3 x4 x5 x6 x7 x8 x9 x10 x11 x12 x13 x14 x15:Int) (hs:e.s=[x]) (C:Ck (k + 10) e 0) (S:Sq (k + 10) e (qo 0 (-1))) (B:Og (k + 10) x n x0 x1 x2 x3 x4 x5 x6 x7 x8 x9 x10 x11 x12 x13 x14 x15 0):Con E (k + 10 + 1) 15 [e.av] (R n x0 x1 x2 x3 x4 x5 x6 x7 x8 x9 x10 x11 x12 x13 x14 x15 false E32.z0):=by
  have F0:=fun w => A1.fnil w (k + 10) (by omega) 0
  have F1:=fun w c => A1.fone w 0 c (k + 10) (by omega) 0
  try simp at F0
  try simp at F1
  have x0:=El.at_ e.fs e.cs [x] 0 x rfl
  simp [El.avs] at x0
  refine con_of E_fn15 (by simp [AV.pureL,El.av_pure]) (Nat.le_of_ble_eq_true rfl) rfl rfl (g:=[]) ?_
  rw [body_15,c15]
  unfold Ck at C; unfold Sq at S; rw [El.av_eq,hs] at C S
  rw [El.av_eq,hs]
  unfold Og at B
  simp [El.avs] at C S
  simp [↓s_seq,↓s_reg,↓s_cond,↓s_cons,s_nil,s_val,s_skip,s_calls,s_cax,s_ret,s_rgx,s_sqn,s_cdb,s_ret',s_skip',s_finr,s_fin1,s_fix,s_clean,o_tmp,o_int,o_bool,l_hit,l_miss,ol_nil,ol_cons,ol_some,x_move,x_assign,x_bin,bn_s,x_extract,x_callF,cl_no,frame0,binA,intOp,resL,resA,results1,sealLW,AV.pure,AV.pureL,keepT,x_alloc,x_box,bxx,x_build,bdx,x_buildSliceF,bsf,x_load,ldx,x_store,stx,x_fieldAddr,x_indexAddr,iax,newK,genOf,setK,lookK,fillA,writeL,writeC,readC,TyI.mk1,fieldAddrA,AV.cells,chunk,gcH,reach,keysT,keepK,inKs,AV.keys,AV.keysL,Ty.isAgg,sc_int,sc_bool,sc_sl,sl_sl,sl_agg,sl_tup,i_beq,↓s_regD,s_rgy,barOf,dynChk,C,S,B,o_glob,El.avs,i1,x0]
  first | exact ⟨rfl,rfl,rfl,⟨rfl,rfl,rfl⟩,rfl,rfl,rfl⟩ | rfl
theorem ok2 (k:Nat) (hK:60 ≤ k) (e x y:El) (n x0 x1 x2 x3 x4 x5 x6 x7 x8 x9 x10 x11 x12 x13 x14 x15:Int) (hs:e.s=[x,y]) (C:Ck (k + 10) e 0) (S:Sq (k + 10) e (qo 0 1)) (B:Og (k + 10) x n x0 x1 x2 x3 x4 x5 x6 x7 x8 x9 x10 x11 x12 x13 x14 x15 0) (L:Cl (k + 10) y):Con E (k + 10 + 1) 15 [e.av] (R n x0 x1 x2 x3 x4 x5 x6 x7 x8 x9 x10 x11 x12 x13 x14 x15 true (clo y)):=by
  have F0:=fun w => A1.fnil w (k + 10) (by omega) 0
  have F1:=fun w c => A1.fone w 0 c (k + 10) (by omega) 0
  try simp at F0
  try simp at F1
  have x0:=El.at_ e.fs e.cs [x,y] 0 x rfl
  have x1:=El.at_ e.fs e.cs [x,y] 1 y rfl
  simp [El.avs] at x0 x1
  refine con_of E_fn15 (by simp [AV.pureL,El.av_pure]) (Nat.le_of_ble_eq_true rfl) rfl rfl (g:=[]) ?_
  rw [body_15,c15]
  unfold Ck at C; unfold Sq at S; rw [El.av_eq,hs] at C S
  rw [El.av_eq,hs]
  unfold Og at B
  unfold Cl at L; rw [El.av_eq y,El.av_eq (clo y)] at L
  simp [El.avs] at C S
  simp [↓s_seq,↓s_reg,↓s_cond,↓s_cons,s_nil,s_val,s_skip,s_calls,s_cax,s_ret,s_rgx,s_sqn,s_cdb,s_ret',s_skip',s_finr,s_fin1,s_fix,s_clean,o_tmp,o_int,o_bool,l_hit,l_miss,ol_nil,ol_cons,ol_some,x_move,x_assign,x_bin,bn_s,x_extract,x_callF,cl_no,frame0,binA,intOp,resL,resA,results1,sealLW,AV.pure,AV.pureL,keepT,x_alloc,x_box,bxx,x_build,bdx,x_buildSliceF,bsf,x_load,ldx,x_store,stx,x_fieldAddr,x_indexAddr,iax,newK,genOf,setK,lookK,fillA,writeL,writeC,readC,TyI.mk1,fieldAddrA,AV.cells,chunk,gcH,reach,keysT,keepK,inKs,AV.keys,AV.keysL,Ty.isAgg,sc_int,sc_bool,sc_sl,sl_sl,sl_agg,sl_tup,↓s_regD,s_rgy,barOf,dynChk,C,S,B,L,o_glob,El.avs,i1,x0,x1]
end A2
end
section
open Ab Go TabE Sp E34 F1 Rw F5 F6 F7 F8 F43 F47 AP A1 A2
namespace A3
abbrev SqR (K:Nat) (e:El) (v:AV):Prop:=∀ c h,aCall E K 0 36 [e.av,.agg [.int .u8 0,.bool true,.int .u32 16],.sl false [.agg [.int .u8 0,.bool false,.int .u32 6,.bool false,.bool false],.agg [.int .u8 0,.bool false,.int .u32 0,.bool true,.bool true]] c] h=some (.ret v,h)
abbrev RR (n x0 x1 x2 x3 x4 x5 x6 x7 x8 x9 x10 x11 x12 x13 x14 x15:Int) (b:Bool) (p:El):AV:=.tup [ag n x0 x1 x2 x3 x4 x5 x6 x7 x8 x9 x10 x11 x12 x13 x14 x15 b p,fR [] 0]
abbrev RR0 (q:List Int) (w:Int):AV:=.tup [zag,fR q w]
abbrev qo (a b:Int):AV:=.tup [.sl false [.int .i64 a,.int .i64 b] none,.agg [.sl true [] (some 0),.int .i64 0]]
theorem seqT (K:Nat) (hK:5 ≤ K):∀ h,aCall E K 0 26 [] h=some (.ret (.agg [.int .u8 0,.bool true,.int .u32 16]),h):=Con.of (g:=[]) (N:=5) rfl (by kernel_rfl) K hK 0
theorem oidT (K:Nat) (hK:5 ≤ K):∀ h,aCall E K 0 67 [] h=some (.ret (.agg [.int .u8 0,.bool false,.int .u32 6]),h):=Con.of (g:=[]) (N:=5) rfl (by kernel_rfl) K hK 0
theorem chk (K:Nat) (hK:60 ≤ K) (e:El) (w:Int) (hw:w ≠ 0) (C:Ck K e w):Con E (K + 1) 16 [e.av] (RR0 [] w):=by
  have F0:=fun w => rnil w (-1) (by omega) K (by omega) 0
  have F1:=fun w => rone w 0 (by omega) K (by omega) 0
  have t0:=seqT K (by omega)
  have t1:=oidT K (by omega)
  try simp at F0
  try simp at F1
  refine con_of E_fn16 (by simp [AV.pureL,El.av_pure]) (Nat.le_of_ble_eq_true rfl) rfl rfl (g:=[]) ?_
  rw [body_16,c16]
  unfold Ck at C; rw [El.av_eq] at C ⊢
  simp [↓s_seq,↓s_reg,↓s_cond,↓s_cons,s_nil,s_val,s_skip,s_calls,s_callP,s_cax,s_ret,s_rgx,s_sqn,s_sqr,s_cdb,s_ret',s_finr,s_fin1,s_fix,s_clean,o_tmp,o_int,l_hit,l_miss,ol_nil,ol_cons,ol_some,x_move,x_assign,x_bin,bn_s,x_callF,cl_no,frame0,binA,intOp,resL,resA,results1,sealLW,AV.pure,AV.pureL,keepT,x_alloc,x_box,bxx,x_load,ldx,x_store,stx,newK,genOf,setK,lookK,writeL,writeC,readC,TyI.mk1,AV.cells,gcH,reach,keysT,keepK,inKs,AV.keys,AV.keysL,Ty.isAgg,sc_int,sc_bool,sc_sl,sl_agg,sl_tup,i_bne,↓s_regD,s_rgy,barOf,dynChk,C,hw,F0]
theorem seq (K:Nat) (hK:60 ≤ K) (e:El) (p:List Int) (w:Int) (hw:w ≠ 0) (C:Ck K e 0) (S:SqR K e (.tup [.sl true [] (some 0),fR p w])):Con E (K + 1) 16 [e.av] (RR0 p w):=by
  have F0:=fun w => rnil w (-1) (by omega) K (by omega) 0
  have F1:=fun w => rone w 0 (by omega) K (by omega) 0
  have t0:=seqT K (by omega)
  have t1:=oidT K (by omega)
  try simp at F0
  try simp at F1
  have np:=ns_pure p
  refine con_of E_fn16 (by simp [AV.pureL,El.av_pure]) (Nat.le_of_ble_eq_true rfl) rfl rfl (g:=[]) ?_
  rw [body_16,c16]
  unfold Ck at C; unfold SqR at S; rw [El.av_eq] at C S
  rw [El.av_eq]
  simp [↓s_seq,↓s_reg,↓s_cond,↓s_cons,s_nil,s_val,s_skip,s_calls,s_callP,s_cax,s_ret,s_rgx,s_sqn,s_sqr,s_cdb,s_ret',s_skip',s_finr,s_fin1,s_fix,s_clean,o_tmp,o_int,o_bool,l_hit,l_miss,ol_nil,ol_cons,ol_some,x_move,x_assign,x_bin,bn_s,x_extract,x_callF,cl_no,frame0,binA,intOp,resL,resA,results1,sealLW,AV.pure,AV.pureL,keepT,x_alloc,x_box,bxx,x_build,bdx,x_buildSliceF,bsf,x_load,ldx,x_store,stx,x_fieldAddr,newK,genOf,setK,lookK,fillA,writeL,writeC,readC,TyI.mk1,fieldAddrA,AV.cells,chunk,gcH,reach,keysT,keepK,inKs,AV.keys,AV.keysL,Ty.isAgg,sc_int,sc_bool,sc_sl,sl_agg,sl_tup,i_bne,↓s_regD,s_rgy,barOf,dynChk,footL,dynOK,disjK,keysOp,opVals,Op.operands,C,hw,S,t0,t1]
theorem get1 (k:Nat) (hK:60 ≤ k) (e x:El) (n x0 x1 x2 x3 x4 x5 x6 x7 x8 x9 x10 x11 x12 x13 x14 x15 w:Int) (hw:w ≠ 0) (hs:e.s=[x]) (C:Ck (k + 10) e 0) (S:SqR (k + 10) e (qo 0 (-1))) (B:Og (k + 10) x n x0 x1 x2 x3 x4 x5 x6 x7 x8 x9 x10 x11 x12 x13 x14 x15 w):Con E (k + 10 + 1) 16 [e.av] (RR0 [0] w):=by
  have F0:=fun w => rnil w (-1) (by omega) (k + 10) (by omega) 0
  have F1:=fun w => rone w 0 (by omega) (k + 10) (by omega) 0
  have t0:=seqT (k + 10) (by omega)
  have t1:=oidT (k + 10) (by omega)
  try simp at F0
  try simp at F1
  have x0:=El.at_ e.fs e.cs [x] 0 x rfl
  simp [El.avs] at x0
  refine con_of E_fn16 (by simp [AV.pureL,El.av_pure]) (Nat.le_of_ble_eq_true rfl) rfl rfl (g:=[]) ?_
  rw [body_16,c16]
  unfold Ck at C; unfold SqR at S; rw [El.av_eq,hs] at C S
  rw [El.av_eq,hs]
  unfold Og at B
  simp [El.avs] at C S
  simp [↓s_seq,↓s_reg,↓s_cond,↓s_cons,s_nil,s_val,s_skip,s_calls,s_callP,s_cax,s_ret,s_rgx,s_sqn,s_sqr,s_cdb,s_ret',s_skip',s_finr,s_fin1,s_fix,s_clean,o_tmp,o_int,o_bool,l_hit,l_miss,ol_nil,ol_cons,ol_some,x_move,x_assign,x_bin,bn_s,x_extract,x_callF,cl_no,frame0,binA,intOp,resL,resA,results1,sealLW,AV.pure,AV.pureL,keepT,x_alloc,x_box,bxx,x_build,bdx,x_buildSliceF,bsf,x_load,ldx,x_store,stx,x_fieldAddr,x_indexAddr,iax,newK,genOf,setK,lookK,fillA,writeL,writeC,readC,TyI.mk1,fieldAddrA,AV.cells,chunk,gcH,reach,keysT,keepK,inKs,AV.keys,AV.keysL,Ty.isAgg,sc_int,sc_bool,sc_sl,sl_sl,sl_agg,sl_tup,i_bne,↓s_regD,s_rgy,barOf,dynChk,C,S,B,hw,F1,t0,t1,El.avs,x0]
theorem get2 (k:Nat) (hK:60 ≤ k) (e x y:El) (n x0 x1 x2 x3 x4 x5 x6 x7 x8 x9 x10 x11 x12 x13 x14 x15 w:Int) (hw:w ≠ 0) (hs:e.s=[x,y]) (C:Ck (k + 10) e 0) (S:SqR (k + 10) e (qo 0 1)) (B:Og (k + 10) x n x0 x1 x2 x3 x4 x5 x6 x7 x8 x9 x10 x11 x12 x13 x14 x15 w):Con E (k + 10 + 1) 16 [e.av] (RR0 [0] w):=by
  have F0:=fun w => rnil w (-1) (by omega) (k + 10) (by omega) 0
  have F1:=fun w => rone w 0 (by omega) (k + 10) (by omega) 0
  have t0:=seqT (k + 10) (by omega)
  have t1:=oidT (k + 10) (by omega)
  try simp at F0
  try simp at F1
  have x0:=El.at_ e.fs e.cs [x,y] 0 x rfl
  have x1:=El.at_ e.fs e.cs [x,y] 1 y rfl
  simp [El.avs] at x0 x1
  refine con_of E_fn16 (by simp [AV.pureL,El.av_pure]) (Nat.le_of_ble_eq_true rfl) rfl rfl (g:=[]) ?_
  rw [body_16,c16]
  unfold Ck at C; unfold SqR at S; rw [El.av_eq,hs] at C S
  rw [El.av_eq,hs]
  unfold Og at B
  simp [El.avs] at C S
  simp [↓s_seq,↓s_reg,↓s_cond,↓s_cons,s_nil,s_val,s_skip,s_calls,s_callP,s_cax,s_ret,s_rgx,s_sqn,s_sqr,s_cdb,s_ret',s_skip',s_finr,s_fin1,s_fix,s_clean,o_tmp,o_int,o_bool,l_hit,l_miss,ol_nil,ol_cons,ol_some,x_move,x_assign,x_bin,bn_s,x_extract,x_callF,cl_no,frame0,binA,intOp,resL,resA,results1,sealLW,AV.pure,AV.pureL,keepT,x_alloc,x_box,bxx,x_build,bdx,x_buildSliceF,bsf,x_load,ldx,x_store,stx,x_fieldAddr,x_indexAddr,iax,newK,genOf,setK,lookK,fillA,writeL,writeC,readC,TyI.mk1,fieldAddrA,AV.cells,chunk,gcH,reach,keysT,keepK,inKs,AV.keys,AV.keysL,Ty.isAgg,sc_int,sc_bool,sc_sl,sl_sl,sl_agg,sl_tup,i_bne,↓s_regD,s_rgy,barOf,dynChk,C,S,B,hw,F1,t0,t1,El.avs,x0]
theorem ok1 (k:Nat) (hK:60 ≤ k) (e x:El) (n x0 x1 x2 x3 x4 x5 x6 x7 x8 x9 x10 x11 x12 x13 x14 x15:Int) (hs:e.s=[x]) (C:Ck (k + 10) e 0) (S:SqR (k + 10) e (qo 0 (-1))) (B:Og (k + 10) x n x0 x1 x2 x3 x4 x5 x6 x7 x8 x9 x10 x11 x12 x13 x14 x15 0):Con E (k + 10 + 1) 16 [e.av] (RR n x0 x1 x2 x3 x4 x5 x6 x7 x8 x9 x10 x11 x12 x13 x14 x15 false E32.z0):=by
  have F0:=fun w => rnil w (-1) (by omega) (k + 10) (by omega) 0
  have F1:=fun w => rone w 0 (by omega) (k + 10) (by omega) 0
  have t0:=seqT (k + 10) (by omega)
  have t1:=oidT (k + 10) (by omega)
  try simp at F0
  try simp at F1
  have x0:=El.at_ e.fs e.cs [x] 0 x rfl
  simp [El.avs] at x0
  refine con_of E_fn16 (by simp [AV.pureL,El.av_pure]) (Nat.le_of_ble_eq_true rfl) rfl rfl (g:=[]) ?_
  rw [body_16,c16]
  unfold Ck at C; unfold SqR at S; rw [El.av_eq,hs] at C S
  rw [El.av_eq,hs]
  unfold Og at B
  simp [El.avs] at C S
  simp [↓s_seq,↓s_reg,↓s_cond,↓s_cons,s_nil,s_val,s_skip,s_calls,s_callP,s_cax,s_ret,s_rgx,s_sqn,s_cdb,s_ret',s_skip',s_finr,s_fin1,s_fix,s_clean,o_tmp,o_int,o_bool,l_hit,l_miss,ol_nil,ol_cons,ol_some,x_move,x_assign,x_bin,bn_s,x_extract,x_callF,cl_no,frame0,binA,intOp,resL,resA,results1,sealLW,AV.pure,AV.pureL,keepT,x_alloc,x_box,bxx,x_build,bdx,x_buildSliceF,bsf,x_load,ldx,x_store,stx,x_fieldAddr,x_indexAddr,iax,newK,genOf,setK,lookK,fillA,writeL,writeC,readC,TyI.mk1,fieldAddrA,AV.cells,chunk,gcH,reach,keysT,keepK,inKs,AV.keys,AV.keysL,Ty.isAgg,sc_int,sc_bool,sc_sl,sl_sl,sl_agg,sl_tup,i_beq,↓s_regD,s_rgy,barOf,dynChk,footL,dynOK,disjK,keysOp,opVals,Op.operands,C,S,B,t0,t1,El.avs,i1,x0]
  first | exact ⟨rfl,rfl,rfl,⟨rfl,rfl,rfl⟩,rfl,rfl,rfl⟩ | rfl
theorem ok2 (k:Nat) (hK:60 ≤ k) (e x y:El) (n x0 x1 x2 x3 x4 x5 x6 x7 x8 x9 x10 x11 x12 x13 x14 x15:Int) (hs:e.s=[x,y]) (C:Ck (k + 10) e 0) (S:SqR (k + 10) e (qo 0 1)) (B:Og (k + 10) x n x0 x1 x2 x3 x4 x5 x6 x7 x8 x9 x10 x11 x12 x13 x14 x15 0):Con E (k + 10 + 1) 16 [e.av] (RR n x0 x1 x2 x3 x4 x5 x6 x7 x8 x9 x10 x11 x12 x13 x14 x15 true y):=by
  have F0:=fun w => rnil w (-1) (by omega) (k + 10) (by omega) 0
  have F1:=fun w => rone w 0 (by omega) (k + 10) (by omega) 0
  have t0:=seqT (k + 10) (by omega)
  have t1:=oidT (k + 10) (by omega)
  try simp at F0
  try simp at F1
  have x0:=El.at_ e.fs e.cs [x,y] 0 x rfl
  have x1:=El.at_ e.fs e.cs [x,y] 1 y rfl
  simp [El.avs] at x0 x1
  refine con_of E_fn16 (by simp [AV.pureL,El.av_pure]) (Nat.le_of_ble_eq_true rfl) rfl rfl (g:=[]) ?_
  rw [body_16,c16]
  unfold Ck at C; unfold SqR at S; rw [El.av_eq,hs] at C S
  rw [El.av_eq,hs]
  unfold Og at B
  simp [El.avs] at C S
  simp [↓s_seq,↓s_reg,↓s_cond,↓s_cons,s_nil,s_val,s_skip,s_calls,s_callP,s_cax,s_ret,s_rgx,s_sqn,s_cdb,s_ret',s_skip',s_finr,s_fin1,s_fix,s_clean,o_tmp,o_int,o_bool,l_hit,l_miss,ol_nil,ol_cons,ol_some,x_move,x_assign,x_bin,bn_s,x_extract,x_callF,cl_no,frame0,binA,intOp,resL,resA,results1,sealLW,AV.pure,AV.pureL,keepT,x_alloc,x_box,bxx,x_build,bdx,x_buildSliceF,bsf,x_load,ldx,x_store,stx,x_fieldAddr,x_indexAddr,iax,newK,genOf,setK,lookK,fillA,writeL,writeC,readC,TyI.mk1,fieldAddrA,AV.cells,chunk,gcH,reach,keysT,keepK,inKs,AV.keys,AV.keysL,Ty.isAgg,sc_int,sc_bool,sc_sl,sl_sl,sl_agg,sl_tup,↓s_regD,s_rgy,barOf,dynChk,footL,dynOK,disjK,keysOp,opVals,Op.operands,C,S,B,t0,t1,El.avs,i1,x0,x1]
end A3
end
section
open Ab Go TabE
attribute [local simp ↓] s_seq s_reg s_regd s_cond s_block s_cons s_consG s_regD
attribute [local simp] s_nil s_loop s_round s_lpn s_lpe s_lpr firstReg s_gt s_gf s_wb s_wu s_val s_valN s_skip s_calls s_callP s_cax lookR flatR pureKs s_ret s_rgx s_sqn s_sqr s_sqe s_cdb s_bkn s_bkr s_bke s_exit s_ret' s_skip' s_finr s_finn s_fin1 s_fix s_clean s_gc0 o_tmp o_int o_bool o_nil o_str o_fn o_nil' l_hit l_miss l_nil ol_nil ol_cons ol_some x_move x_assign x_pick pk_t pk_f x_bin bn_s x_un x_extract x_callF cl_no x_callB x_callBF frzV x_conv cvx convA frame0 binA intOp resL resA results1 sealLW AV.pure AV.pureL keepT x_alloc x_box bxx x_build bdx x_buildSlice bsx x_buildSliceF bsf x_load ldx x_store stx x_slice slx x_fieldAddr x_field x_index ixx x_indexAddr iax x_makeSlice msx x_makeSliceF msf x_nilCheck newK genOf setK lookK fillA writeL writeC readC conts TyI.mk1 sliceA boundsA boundsB fitsA numA indexAddrA fieldAddrA partA fieldA indexA appendA copyA builtinA AV.cells chunk gcH reach keysT keepK inKs AV.keys AV.keysL Ty.isAgg eq1 eqL convA.go ltI w_u8 w_u32 w_u64 w_i64 w_fdiv w_tdiv w_tmod IntKind.bits unA sc_int sc_bool sc_str sc_sl sc_ref sc_ptr sc_pel sc_nilp sc_fn sc_nilf sc_if sc_nili sc_agg sc_tup sc_mem bs_pure bs_kl bs_length bs_cells bs_all sl_row sealRow sealY sl_int sl_bool sl_str sl_sl sl_nilp sl_nilf sl_nili sl_pel sl_agg sl_tup sl_fn sl_if nat_1 bs_cons bs_nil i_beq i_bne x_mkF x_mkI x_tassert x_panic s_pan s_sqp s_bkp s_finp s_fixp s_lpp s_rgp s_retp s_site s_stxN s_stxO x_callT clx El.avs_len s_dyn0 s_rgy barOf dynChk footL dynOK disjK keysOp opVals Op.operands
section
open Ab Go TabE Sp
namespace QA
theorem pureL_drop:∀ (n:Nat) (l:List AV),AV.pureL l=true → AV.pureL (l.drop n)=true
  | 0,l,h => h
  | n + 1,[],h => rfl
  | n + 1,x :: l,h => by
    have h':x.pure=true ∧ AV.pureL l=true:=by simpa [AV.pureL] using h
    exact pureL_drop n l h'.2
theorem pureL_take:∀ (n:Nat) (l:List AV),AV.pureL l=true → AV.pureL (l.take n)=true
  | 0,l,h => rfl
  | n + 1,[],h => rfl
  | n + 1,x :: l,h => by
    have h':x.pure=true ∧ AV.pureL l=true:=by simpa [AV.pureL] using h
    simp [AV.pureL,h'.1,pureL_take n l h'.2]
end QA
end
end
section
open Ab Go
namespace SG
def sealG (h:Heap) (key:Key) (off len:Nat) (cap:Option Nat):Option (AV × Heap) :=
  match lookK h key with
  | some o => if o.live=true ∧ off + len * o.esz ≤ o.cells.length ∧ (o.eagg=false → o.esz=1) ∧ AV.pureL o.cells=true then some (.sl false (chunk o.eagg o.esz len ((o.cells.drop off).take (len * o.esz))) cap,setK h key ⟨o.cells,o.live,false,o.exact,o.esz,o.eagg⟩) else none
  | none => none
def sealZ (n:Nat) (h:Heap) (v:AV):Option (AV × Heap):=sealA n h v
def sealYG:Option (AV × Heap) → Nat → Heap → AV → Option (AV × Heap)
  | some r,_,_,_ => some r
  | none,n,h,v => sealZ n h v
theorem sl_g (n:Nat) (h:Heap) (key:Key) (off len:Nat) (cap:Option Nat):sealX (n + 2) h (.ref key off len cap)=sealYG (sealG h key off len cap) (n + 2) h (.ref key off len cap):=by
  cases hr:sealG h key off len cap with
  | none => rfl
  | some r =>
    unfold sealG at hr
    split at hr
    · rename_i o hk
      split at hr
      · rename_i hc
        obtain ⟨h1,h2,h3,h5⟩:=hc
        cases hr
        simp only [sealYG]
        unfold sealX sealA
        have hp:(AV.ref key off len cap).pure=false:=rfl
        simp only [hp,Bool.false_eq_true,if_false,hk]
        rw [if_pos ⟨h1,h2,h3⟩]
        have pp:=QA.pureL_take (len * o.esz) _ (QA.pureL_drop off _ h5)
        rw [sealL_of_pure n _ _ pp]
      · cases hr
    · cases hr
end SG
end
section
open Ab Go TabE
attribute [local simp ↓] s_seq s_reg s_regd s_cond s_block s_cons s_consG s_regD
attribute [local simp] s_nil s_loop s_round s_lpn s_lpe s_lpr firstReg s_gt s_gf s_wb s_wu s_val s_valN s_skip s_calls s_callP s_cax lookR flatR pureKs s_ret s_rgx s_sqn s_sqr s_sqe s_cdb s_bkn s_bkr s_bke s_exit s_ret' s_skip' s_finr s_finn s_fin1 s_fix s_clean s_gc0 o_tmp o_int o_bool o_nil o_str o_fn o_nil' l_hit l_miss l_nil ol_nil ol_cons ol_some x_move x_assign x_pick pk_t pk_f x_bin bn_s x_un x_extract x_callF cl_no x_callB x_callBF frzV x_conv cvx convA frame0 binA intOp resL resA results1 sealLW AV.pure AV.pureL keepT x_alloc x_box bxx x_build bdx x_buildSlice bsx x_buildSliceF bsf x_load ldx x_store stx x_slice slx x_fieldAddr x_field x_index ixx x_indexAddr iax x_makeSlice msx x_makeSliceF msf x_nilCheck newK genOf setK lookK fillA writeL writeC readC conts TyI.mk1 sliceA boundsA boundsB fitsA numA indexAddrA fieldAddrA partA fieldA indexA appendA copyA builtinA AV.cells chunk gcH reach keysT keepK inKs AV.keys AV.keysL Ty.isAgg eq1 eqL convA.go ltI w_u8 w_u32 w_u64 w_i64 w_fdiv w_tdiv w_tmod IntKind.bits unA sc_int sc_bool sc_str sc_sl sc_ref sc_ptr sc_pel sc_nilp sc_fn sc_nilf sc_if sc_nili sc_agg sc_tup sc_mem bs_pure bs_kl bs_length bs_cells bs_all sl_row sealRow sealY sl_int sl_bool sl_str sl_sl sl_nilp sl_nilf sl_nili sl_pel sl_agg sl_tup sl_fn sl_if nat_1 bs_cons bs_nil i_beq i_bne x_mkF x_mkI x_tassert x_panic s_pan s_sqp s_bkp s_finp s_fixp s_lpp s_rgp s_retp s_site s_stxN s_stxO x_callT clx El.avs_len s_dyn0 s_rgy barOf dynChk footL dynOK disjK keysOp opVals Op.operands
section
open Ab Go TabE Sp QA
namespace QC
theorem clipE (f xs c) (hp:AV.pureL xs=true):Con E 5 90 [.sl f xs c] (.sl f xs (some xs.length)):=by
  refine .of (g:=[]) (by simp [AV.pureL,AV.pure,hp]) ?_
  rw [aCall_fn rfl E_fn90 (by simp [AV.pureL,AV.pure,hp]) (Nat.le_of_ble_eq_true rfl) rfl rfl,body_90,c90]
  simp [hp]
end QC
end
section
open Ab Go TabE Sp E34 F1 Rw F5 F6 F7 F8 F43 F47 AP A1 A2
namespace A6
theorem ints_map:∀ xs:List Int,(∀ x ∈ xs,0 ≤ x ∧ x < 4294967296) → OP.ints (xs.map (AV.int .u32))=some xs
  | [],_ => rfl
  | x :: r,h => by
    rw [List.map_cons,OP.ints,if_pos (h x (by simp)),ints_map r fun y hy => h y (by simp [hy])]
    rfl
abbrev zel:AV:=.agg [.int .u8 0,.bool false,.int .u32 0,.sl true [] (some 0),.sl true [] (some 0)]
theorem put (n x0 x1 x2 x3 x4 x5 x6 x7 x8 x9 x10 x11 x12 x13 x14 x15:Int) (hn:0 ≤ n ∧ n < 256) (hx:∀ x ∈ [x0,x1,x2,x3,x4,x5,x6,x7,x8,x9,x10,x11,x12,x13,x14,x15],0 ≤ x ∧ x < 4294967296):Con E 1 117 [.agg [.int .u8 n,.int .u32 x0,.int .u32 x1,.int .u32 x2,.int .u32 x3,.int .u32 x4,.int .u32 x5,.int .u32 x6,.int .u32 x7,.int .u32 x8,.int .u32 x9,.int .u32 x10,.int .u32 x11,.int .u32 x12,.int .u32 x13,.int .u32 x14,.int .u32 x15]] (if OP.okB n [x0,x1,x2,x3,x4,x5,x6,x7,x8,x9,x10,x11,x12,x13,x14,x15] then .tup [.sl false (bs (OP.octs n [x0,x1,x2,x3,x4,x5,x6,x7,x8,x9,x10,x11,x12,x13,x14,x15])) (some (OP.octs n [x0,x1,x2,x3,x4,x5,x6,x7,x8,x9,x10,x11,x12,x13,x14,x15]).length),.int .i64 0] else .tup [.sl true [] (some 0),.int .i64 1]):=by
  refine con_prim (p:=OP.oidP) rfl rfl ?_ ?_
  · have:=ints_map [x0,x1,x2,x3,x4,x5,x6,x7,x8,x9,x10,x11,x12,x13,x14,x15] hx
    simp only [List.map] at this
    unfold OP.oidP
    simp only [this,Option.bind_some]
    rw [if_pos ⟨hn.1,hn.2,rfl⟩]
    rfl
  · split <;> simp [AV.pure,AV.pureL,bs_pure]
theorem check (n x0 x1 x2 x3 x4 x5 x6 x7 x8 x9 x10 x11 x12 x13 x14 x15:Int) (hn:0 ≤ n ∧ n < 256) (hx:∀ x ∈ [x0,x1,x2,x3,x4,x5,x6,x7,x8,x9,x10,x11,x12,x13,x14,x15],0 ≤ x ∧ x < 4294967296):Con E 1 21 [.agg [.int .u8 n,.int .u32 x0,.int .u32 x1,.int .u32 x2,.int .u32 x3,.int .u32 x4,.int .u32 x5,.int .u32 x6,.int .u32 x7,.int .u32 x8,.int .u32 x9,.int .u32 x10,.int .u32 x11,.int .u32 x12,.int .u32 x13,.int .u32 x14,.int .u32 x15]] (.int .i64 (if OP.okB n [x0,x1,x2,x3,x4,x5,x6,x7,x8,x9,x10,x11,x12,x13,x14,x15] then 0 else 1)):=by
  refine con_prim (p:=OP.checkP) rfl rfl ?_ rfl
  have:=ints_map [x0,x1,x2,x3,x4,x5,x6,x7,x8,x9,x10,x11,x12,x13,x14,x15] hx
  simp only [List.map] at this
  unfold OP.checkP
  simp only [this,Option.bind_some]
  rw [if_pos ⟨hn.1,hn.2,rfl⟩]
abbrev Pu (K:Nat) (n x0 x1 x2 x3 x4 x5 x6 x7 x8 x9 x10 x11 x12 x13 x14 x15:Int) (v:AV):Prop:=∀ h,aCall E K 0 117 [.agg [.int .u8 n,.int .u32 x0,.int .u32 x1,.int .u32 x2,.int .u32 x3,.int .u32 x4,.int .u32 x5,.int .u32 x6,.int .u32 x7,.int .u32 x8,.int .u32 x9,.int .u32 x10,.int .u32 x11,.int .u32 x12,.int .u32 x13,.int .u32 x14,.int .u32 x15]] h=some (.ret v,h)
theorem bad1 (K:Nat) (hK:60 ≤ K) (n x0 x1 x2 x3 x4 x5 x6 x7 x8 x9 x10 x11 x12 x13 x14 x15:Int) (b:Bool) (p:El) (P:Pu K n x0 x1 x2 x3 x4 x5 x6 x7 x8 x9 x10 x11 x12 x13 x14 x15 (.tup [.sl true [] (some 0),.int .i64 1])):Con E (K + 1) 72 [ag n x0 x1 x2 x3 x4 x5 x6 x7 x8 x9 x10 x11 x12 x13 x14 x15 b p] (.tup [zel,.int .i64 1]):=by
  refine con_of E_fn72 (by simp [AV.pureL,AV.pure,El.avs_pure]) (Nat.le_of_ble_eq_true rfl) rfl rfl (g:=[]) ?_
  rw [body_72,c72]
  unfold Pu at P
  simp [P]
theorem bad2 (K:Nat) (hK:60 ≤ K) (n x0 x1 x2 x3 x4 x5 x6 x7 x8 x9 x10 x11 x12 x13 x14 x15:Int) (p:El) (o:List Int) (P:Pu K n x0 x1 x2 x3 x4 x5 x6 x7 x8 x9 x10 x11 x12 x13 x14 x15 (.tup [.sl false (bs o) (some o.length),.int .i64 0])) (Z:∀ h,aCall E K 0 118 [p.av] h=some (.ret (.bool false),h)):Con E (K + 1) 72 [ag n x0 x1 x2 x3 x4 x5 x6 x7 x8 x9 x10 x11 x12 x13 x14 x15 false p] (.tup [zel,.int .i64 1]):=by
  refine con_of E_fn72 (by simp [AV.pureL,AV.pure,El.avs_pure]) (Nat.le_of_ble_eq_true rfl) rfl rfl (g:=[]) ?_
  rw [body_72,c72]
  unfold Pu at P; rw [El.av_eq] at Z
  simp [P,Z]
theorem ok1 (K:Nat) (hK:60 ≤ K) (n x0 x1 x2 x3 x4 x5 x6 x7 x8 x9 x10 x11 x12 x13 x14 x15:Int) (p:El) (o:List Int) (P:Pu K n x0 x1 x2 x3 x4 x5 x6 x7 x8 x9 x10 x11 x12 x13 x14 x15 (.tup [.sl false (bs o) (some o.length),.int .i64 0])) (Z:∀ h,aCall E K 0 118 [p.av] h=some (.ret (.bool true),h)):Con E (K + 1) 72 [ag n x0 x1 x2 x3 x4 x5 x6 x7 x8 x9 x10 x11 x12 x13 x14 x15 false p] (.tup [(tp [lf o] 1).av,.int .i64 0]):=by
  have cc:=fun f xs c hp => QC.clipE f xs c hp K (by omega) 0
  refine con_of E_fn72 (by simp [AV.pureL,AV.pure,El.avs_pure]) (Nat.le_of_ble_eq_true rfl) rfl rfl (g:=[]) ?_
  rw [body_72,c72]
  unfold Pu at P; rw [El.av_eq] at Z
  simp [P,Z,cc,o_glob,El.av,El.avs]
theorem ok2 (K:Nat) (hK:60 ≤ K) (n x0 x1 x2 x3 x4 x5 x6 x7 x8 x9 x10 x11 x12 x13 x14 x15:Int) (p:El) (o:List Int) (P:Pu K n x0 x1 x2 x3 x4 x5 x6 x7 x8 x9 x10 x11 x12 x13 x14 x15 (.tup [.sl false (bs o) (some o.length),.int .i64 0])) (C:A2.Cl K p):Con E (K + 1) 72 [ag n x0 x1 x2 x3 x4 x5 x6 x7 x8 x9 x10 x11 x12 x13 x14 x15 true p] (.tup [(tp [lf o,clo p] 2).av,.int .i64 0]):=by
  have cc:=fun f xs c hp => QC.clipE f xs c hp K (by omega) 0
  refine con_of E_fn72 (by simp [AV.pureL,AV.pure,El.avs_pure]) (Nat.le_of_ble_eq_true rfl) rfl rfl (g:=[]) ?_
  rw [body_72,c72]
  unfold Pu at P; unfold A2.Cl at C; rw [El.av_eq p,El.av_eq (clo p)] at C
  have e:(tp [lf o,clo p] 2).av=.agg [.int .u8 0,.bool true,.int .u32 16,.sl true [] (some 0),.sl false [(lf o).av,(clo p).av] (some 2)]:=rfl
  rw [e,El.av_eq (clo p)]
  simp [P,C,cc,o_glob,El.av,El.avs]
end A6
end
end
section
open Ab Go TabE
namespace OFn
theorem opened_fn {E:Env} {k slot f h x g v hf} (hr:aRun E k f [x,.fn g [] []] []=some (.ret v,hf)) (hx:x.pure=true) (hv:v.pure=true):opened [false,true] true (aRun E k) slot f [x,.fn g [] []] h=some (.ret v,h):=by
  have e1:sealM (sealA 20) [false,true] h [x,.fn g [] []]=some ([x,.fn g [] []],h):=by simp [sealM,sealA_of_pure hx]
  have e2:AV.keysL [x,.fn g [] []]=[]:=by simp [AV.keysL,AV.keys,AV.keys_pure x hx]
  have e3:AV.rnL (inK []) [x,.fn g [] []]=[x,.fn g [] []]:=by simp [AV.rnL,AV.rn,rn_pure x hx]
  have e4:sealA 20 hf v=some (v,hf):=sealA_of_pure hv
  have e5:AV.keysL [v]=[]:=by simp [AV.keysL,AV.keys_pure v hv]
  have e6:∀ φ,AV.rnL φ [v]=[v]:=fun φ => by simp [AV.rnL,rn_pure v hv]
  have e7:∀ h:Heap,dd (reach h 3 [])=[]:=fun h => rfl
  unfold opened
  rw [e1]
  simp only [e2,e7]
  unfold lendA
  simp only [lendH,closedH,e2,List.all_nil,and_self,if_true,e3,hr,backR,e4]
  unfold backV Ab.back backA
  simp only [List.length_nil,lentKs,List.range_zero,List.map_nil,List.nil_append,e5,e7,closedH,List.all_nil,and_self,if_true,e6,List.filter_nil,putAll]
theorem exm {x:Option (ARes × Heap)} {r} (h:x.map Prod.fst=some r):∃ hf,x=some (r,hf):=by
  cases x with
  | none => cases h
  | some p => obtain ⟨a,b⟩:=p; cases h; exact ⟨b,rfl⟩
end OFn
end
