/- Own work, no conditions. -/
import Derived.Test.YtalmnhdnclmhbaaT28
import Derived.Test.YtalmnhdnclmhbaaB40
set_option maxRecDepth 20000
set_option linter.unusedSimpArgs false
set_option linter.unusedVariables false
set_option maxHeartbeats 16000000
section
open Ab Go TabB T1 T2 T3 T4 T5 T6 T12 T14
namespace T29
theorem put_nil (f c):Con E 30 35 [.sl f [] c] (.sl false (bs [0]) (some 1)):=by
  refine .of (g:=[]) (by simp [AV.pureL,AV.pure]) ?_
  rw [aCall_fn rfl (E_fn35) (by simp [AV.pureL,AV.pure]) (Nat.le_of_ble_eq_true rfl) rfl rfl,body_35,c35]
  have B:=bytes_nil f c
  simp [↓s_seq,↓s_reg,↓s_cons,s_nil,s_val,s_calls,s_cax,s_ret,s_rgx,s_sqn,s_ret',s_finr,s_fin1,s_fix,s_clean,o_tmp,o_int,o_nil,l_hit,l_miss,ol_nil,ol_cons,ol_some,x_move,x_assign,x_bin,bn_s,x_callF,cl_no,x_callB,x_conv,cvx,convA,frame0,binA,intOp,resL,resA,results1,sealA,sealLW,AV.pure,AV.pureL,keepT,x_buildSlice,bsx,newK,genOf,setK,lookK,fillA,writeL,writeC,conts,appendA,copyA,builtinA,AV.cells,AV.scal,chunk,gcH,reach,keysT,keepK,inKs,AV.keys,AV.keysL,Ty.isAgg,w_u8,w_i64,B,bs]
theorem put_con (f c) (l:List Int) (hb:isBit l) (hl:l.length < 800000) (h0:0 < l.length) (x:Int) (hx:(8 - (l.length:Int) % 8) % 8=x) (N:Nat) (hN:l.length + 30 ≤ N):Con E N 35 [.sl f (is l) c] (.sl false (bs (x :: bytesOf l)) none):=by
  obtain ⟨N,rfl⟩:∃ M,N=M + 1:=⟨N - 1,by omega⟩
  refine .of (g:=[]) (by simp [AV.pureL,AV.pure]) ?_
  rw [aCall_fn rfl (E_fn35) (by simp [AV.pureL,AV.pure]) (Nat.le_of_ble_eq_true rfl) rfl rfl,body_35,c35]
  have B:=bytes_con f c l hb hl h0 N (by omega)
  have bl:(bytesOf l).length=(l.length + 7) / 8:=T28.bytesOf_length l
  have w1:=w64 (8 * ((bytesOf l).length:Int)) (by omega) (by omega)
  have w2:=w64 (8 * ((bytesOf l).length:Int) - (l.length:Int)) (by omega) (by omega)
  have e1:(8 * ((bytesOf l).length:Int) - (l.length:Int)) % 256=x:=by omega
  have cp:(bytesOf l).length + 1 ≤ 70368744177664:=by omega
  have n0:(bytesOf l).length ≠ 0:=by omega
  have c1:0=0:=rfl
  have n1:bytesOf l ≠ []:=by intro e; rw [e] at n0; simp at n0
  have p:=is_pure l
  have pb:=bs_pure (bytesOf l)
  have ln:=is_length l
  have lb:=bs_length (bytesOf l)
  have cb:=bs_cells (bytesOf l)
  have sb:=bs_scal (bytesOf l)
  have B':=B N (Nat.le_refl _) 0
  simp [↓s_seq,↓s_reg,↓s_cons,s_nil,s_val,s_calls,s_cax,s_ret,s_rgx,s_sqn,s_ret',s_finr,s_fin1,s_fix,s_clean,o_tmp,o_int,o_nil,l_hit,l_miss,ol_nil,ol_cons,ol_some,x_move,x_assign,x_bin,bn_s,x_callF,cl_no,x_callB,x_conv,cvx,convA,frame0,binA,intOp,resL,resA,results1,sealLW,AV.pure,AV.pureL,keepT,x_buildSlice,bsx,newK,genOf,setK,lookK,fillA,writeL,writeC,conts,appendA,copyA,builtinA,AV.cells,gcH,reach,keysT,keepK,inKs,AV.keys,AV.keysL,Ty.isAgg,w_u8,sc_int,sc_mem,bs_kl,sl_row,sealRow,sealY,sl_sl,nat_1,bs_cons,B',w1,w2,e1,cp,n0,pb,ln,lb,cb]
end T29
end
section
open Ab Go TabB T1 T2 T3 T4 T5 T6 T12 T14
namespace T30
def b30:Code:=match c30 with
  | .seq _ (.seq _ (.seq (.block _ (.loop b)) _)) => b
  | _ => .skip
abbrev S0 (w:Int):St:=⟨[(0,.int .u64 w),(3,.sl true [] (some 0))],[]⟩
abbrev S (w:Int) (m n:Nat) (xs:List AV):St:=⟨[(0,.int .u64 w),(3,.ref (1,11,m) 0 n none)],[((1,11,m),⟨xs,true,true,false,1,false⟩)]⟩
theorem first (call sc) (k1:Nat) (w:Int) (h0:0 < w) (h1:w < 18446744073709551616) :
    aCode E call sc k1 1 fn30 b30 (cleanS 1 ((firstReg b30).bind fn30.head) (S0 w))=some (.normal,S (w / 2) 0 1 [.int .i64 (w % 2)]):=by
  have q1:w.tmod 2=w % 2:=Int.tmod_eq_emod_of_nonneg (by omega)
  have q2:w.tdiv 2=w / 2:=Int.tdiv_eq_ediv_of_nonneg (by omega)
  have w1:=w64 (w % 2) (by omega) (by omega)
  have w2:w / 2 % 18446744073709551616=w / 2:=Int.emod_eq_of_lt (by omega) (by omega)
  simp [b30,c30,↓s_seq,↓s_reg,↓s_cond,↓s_block,↓s_cons,s_nil,firstReg,s_val,s_rgx,s_sqn,s_cdb,s_bkn,s_skip',s_clean,o_tmp,o_int,l_hit,l_miss,ol_nil,ol_cons,ol_some,x_move,x_assign,x_bin,bn_s,x_callB,x_conv,cvx,convA,binA,intOp,keepT,x_buildSlice,bsx,newK,genOf,setK,lookK,fillA,writeL,writeC,conts,appendA,copyA,builtinA,AV.cells,AV.scal,gcH,reach,keysT,keepK,inKs,AV.keys,AV.keysL,Ty.isAgg,w_u64,h0,q1,q2,w1,w2]
theorem round (call sc) (k1:Nat) (w:Int) (m n:Nat) (xs:List AV) (h0:0 < w) (h1:w < 18446744073709551616) (hn:xs.length=n) (hm:n < 1000) (hs:xs.all AV.scal=true) (kk:AV.keysL xs=[]) :
    aCode E call sc k1 1 fn30 b30 (cleanS 1 ((firstReg b30).bind fn30.head) (S w m n xs))=some (.normal,S (w / 2) (m + 1) (n + 1) (xs ++ [.int .i64 (w % 2)])):=by
  have q1:w.tmod 2=w % 2:=Int.tmod_eq_emod_of_nonneg (by omega)
  have q2:w.tdiv 2=w / 2:=Int.tdiv_eq_ediv_of_nonneg (by omega)
  have w1:=w64 (w % 2) (by omega) (by omega)
  have w2:w / 2 % 18446744073709551616=w / 2:=Int.emod_eq_of_lt (by omega) (by omega)
  have cp:(n + 1) * 8 ≤ 70368744177664:=by omega
  have k2:AV.keysL (xs ++ [.int .i64 (w % 2)])=[]:=by rw [kL_app,kk]; rfl
  simp [b30,c30,↓s_seq,↓s_reg,↓s_cond,↓s_block,↓s_cons,s_nil,firstReg,s_val,s_rgx,s_sqn,s_cdb,s_bkn,s_skip',s_clean,o_tmp,o_int,l_hit,l_miss,ol_nil,ol_cons,ol_some,x_move,x_assign,x_bin,bn_s,x_callB,x_conv,cvx,convA,binA,intOp,keepT,x_buildSlice,bsx,newK,genOf,setK,lookK,fillA,writeL,writeC,conts,appendA,copyA,builtinA,AV.cells,AV.scal,gcH,reach,keysT,keepK,inKs,AV.keys,Ty.isAgg,w_u64,h0,q1,q2,w1,w2,hn,kk,cp,k2]
theorem fin (call sc) (k1:Nat) (m n:Nat) (xs:List AV) (kk:AV.keysL xs=[]) :
    aCode E call sc k1 1 fn30 b30 (cleanS 1 ((firstReg b30).bind fn30.head) (S 0 m n xs))=some (.exit 0,⟨[(0,.int .u64 0),(3,.ref (1,11,m) 0 n none),(5,.bool false)],[((1,11,m),⟨xs,true,true,false,1,false⟩)]⟩):=by
  simp [b30,c30,↓s_seq,↓s_reg,↓s_cond,↓s_cons,s_nil,firstReg,s_val,s_rgx,s_sqn,s_sqe,s_cdb,s_exit,s_clean,o_tmp,o_int,l_hit,l_miss,x_move,x_bin,bn_s,binA,intOp,keepT,lookK,gcH,reach,keysT,keepK,inKs,AV.keys,kk]
theorem W_pos {l:List Int} (hb:isBit l) (hl:l ≠ []) (hz:l[l.length - 1]? = some 1):0 < W l:=by
  have:=T23.W_ge l hb (List.length_pos_iff.2 hl) hz
  have p:(0:Int) < 2 ^ (l.length - 1):=Int.pow_pos (by decide)
  omega
theorem W_drop (l:List Int) (j:Nat) (x:Int) (e:l[j]? = some x):W (l.drop j)=2 * W (l.drop (j + 1)) + x:=by
  obtain ⟨h,hv⟩:=List.getElem?_eq_some_iff.1 e
  rw [List.drop_eq_getElem_cons h,hv]; rfl
theorem loop (call sc) (k1 k:Nat) (l:List Int) (hb:isBit l) (hl:l.length ≤ 64) (h0:0 < l.length) (hz:l[l.length - 1]? = some 1) (hk:l.length < k) :
    aLoop (aCode E call sc k1 1 fn30 b30) (cleanS 1 ((firstReg b30).bind fn30.head)) k (S0 (W l))=some (.exit 0,⟨[(0,.int .u64 0),(3,.ref (1,11,l.length - 1) 0 l.length none),(5,.bool false)],[((1,11,l.length - 1),⟨is l,true,true,false,1,false⟩)]⟩):=by
  have lt64:∀ j,W (l.drop j) < 18446744073709551616:=fun j => by
    have hd:isBit (l.drop j):=fun z hz => hb z (List.mem_of_mem_drop hz)
    have lt:=W_lt hd
    have ld:(l.drop j).length ≤ 64:=by rw [List.length_drop]; omega
    have pw:(2:Int) ^ (l.drop j).length ≤ 2 ^ 64:=by
      have:=Nat.pow_le_pow_right (n:=2) (by decide) ld
      exact_mod_cast this
    have p64:(2:Int) ^ 64=18446744073709551616:=by decide
    omega
  have pos:∀ j,j < l.length → 0 < W (l.drop j):=fun j hj => by
    refine W_pos (fun z hz => hb z (List.mem_of_mem_drop hz)) ?_ ?_
    · intro e; have:=congrArg List.length e; rw [List.length_drop] at this; simp at this; omega
    · rw [List.getElem?_drop,List.length_drop,show j + (l.length - j - 1)=l.length - 1 by omega]; exact hz
  refine loopR (fun j => if j=0 then S0 (W l) else S (W (l.drop j)) (j - 1) j (is (l.take j))) l.length (by simp) (fun j hj => ?_) ?_ (by simp) hk
  · obtain ⟨x,e⟩:∃ x,l[j]? = some x:=⟨l[j],by simp⟩
    have hx:=hb x (List.mem_of_getElem? e)
    have wd:=W_drop l j x e
    have m2:W (l.drop j) % 2=x:=by rw [wd]; omega
    have d2:W (l.drop j) / 2=W (l.drop (j + 1)):=by rw [wd]; omega
    have tk:l.take (j + 1)=l.take j ++ [x]:=by rw [List.take_add_one,e]; rfl
    have p:=pos j hj
    rw [if_neg (by omega:¬ j + 1=0),tk,is_app]
    by_cases hj0:j=0
    · subst hj0
      rw [if_pos rfl]
      have f:=first call sc k1 (W l) p (by have:=lt64 0; rwa [List.drop_zero] at this)
      rw [List.drop_zero] at m2 d2
      rw [m2,d2] at f
      simpa [is] using f
    · rw [if_neg hj0]
      have r:=round call sc k1 (W (l.drop j)) (j - 1) j (is (l.take j)) p (lt64 j) (by rw [is_length,List.length_take]; omega) (by omega) (is_scal _) (is_keys _)
      rw [m2,d2,show j - 1 + 1=j by omega] at r
      simpa [is] using r
  · rw [if_neg (by omega:¬ l.length=0),List.take_length,List.drop_length]
    exact fin call sc k1 _ _ _ (is_keys _)
theorem put0:Con E 600 30 [.int .u64 0] (.sl false (bs [0]) (some 1)):=by
  refine .of (g:=[]) rfl ?_
  rw [aCall_fn rfl (E_fn30) rfl (Nat.le_of_ble_eq_true rfl) rfl rfl,body_30,c30]
  have P:=T29.put_nil true (some 0)
  simp [↓s_seq,↓s_reg,↓s_cond,↓s_block,↓s_cons,s_nil,s_loop,s_round,s_lpe,firstReg,s_val,s_calls,s_cax,s_ret,s_rgx,s_sqn,s_sqe,s_cdb,s_bke,s_exit,s_ret',s_finr,s_fin1,s_fix,s_clean,o_tmp,o_int,o_nil,l_hit,l_miss,ol_nil,ol_cons,ol_some,x_move,x_assign,x_bin,bn_s,x_callF,cl_no,frame0,binA,intOp,resL,resA,results1,sealA,sealLW,AV.pure,AV.pureL,keepT,gcH,P,bs]
theorem put (l:List Int) (hb:isBit l) (h0:0 < l.length) (hl:l.length ≤ 64) (hz:l[l.length - 1]? = some 1) (x:Int) (hx:(8 - (l.length:Int) % 8) % 8=x):Con E 600 30 [.int .u64 (W l)] (.sl false (bs (x :: bytesOf l)) none):=by
  refine .of (g:=[]) rfl ?_
  rw [aCall_fn rfl (E_fn30) rfl (Nat.le_of_ble_eq_true rfl) rfl rfl,body_30,c30]
  have P:∀ c,Con E 300 35 [.sl false (is l) c] (.sl false (bs (x :: bytesOf l)) none):=fun c => T29.put_con false c l hb (by omega) h0 x hx 300 (by omega)
  have lp:=loop (aCall E 599) (dcall (aRun E 599)) 599 599 l hb hl h0 hz (by omega)
  simp [b30,c30,firstReg] at lp
  have sl:∀ h cap,lookK h (1,11,l.length - 1)=some ⟨is l,true,true,false,1,false⟩ → sealA 20 h (.ref (1,11,l.length - 1) 0 l.length cap)=some (.sl false (is l) cap,setK h (1,11,l.length - 1) ⟨is l,true,false,false,1,false⟩):=fun h cap hk => seal_row (n:=18) hk (is_length l).symm (is_pure l)
  have kk:=is_keys l
  have pp:=is_pure l
  simp [↓s_seq,↓s_reg,↓s_block,↓s_cons,s_nil,s_loop,firstReg,s_val,s_calls,s_cax,s_ret,s_rgx,s_sqn,s_bke,s_ret',s_finr,s_fin1,s_fix,s_clean,o_tmp,o_nil,l_hit,l_miss,ol_nil,ol_cons,ol_some,x_move,x_assign,x_callF,cl_no,frame0,resL,resA,results1,sealA,sealLW,AV.pure,AV.pureL,keepT,setK,lookK,gcH,reach,keysT,keepK,inKs,AV.keys,lp,sl,P,-sealA,-sealLW]
end T30
end
section
open Ab Go TabB
attribute [local simp ↓] s_seq s_reg s_regd s_cond s_block s_cons s_consG
attribute [local simp] s_nil s_loop s_round s_lpn s_lpe s_lpr firstReg s_gt s_gf s_wb s_wu s_val s_valN s_skip s_calls s_callP s_cax lookR flatR pureKs s_ret s_rgx s_sqn s_sqr s_sqe s_cdb s_bkn s_bkr s_bke s_exit s_ret' s_skip' s_finr s_finn s_fin1 s_fix s_clean s_gc0 o_tmp o_int o_bool o_nil o_str o_fn o_nil' l_hit l_miss l_nil ol_nil ol_cons ol_some x_move x_assign x_pick pk_t pk_f x_bin bn_s x_un x_extract x_callF cl_no x_callB x_callBF frzV x_conv cvx convA frame0 binA intOp resL resA results1 sealA sealLW AV.pure AV.pureL keepT x_alloc x_box bxx x_build bdx x_buildSlice bsx x_buildSliceF bsf x_load ldx x_store stx x_slice slx x_fieldAddr x_field x_index ixx x_indexAddr iax x_makeSlice msx x_nilCheck newK genOf setK lookK fillA writeL writeC readC conts TyI.mk1 sliceA boundsA boundsB fitsA numA indexAddrA fieldAddrA partA fieldA indexA appendA copyA builtinA AV.cells AV.scal chunk gcH reach keysT keepK inKs AV.keys AV.keysL Ty.isAgg eq1 eqL convA.go ltI w_u8 w_u32 w_u64 w_i64 w_fdiv w_tdiv w_tmod IntKind.bits unA
section
open Ab Go TabB T1 T2 T3 T4 T5 T6 T12 T14 T24 T28
namespace T31
structure Oc (l:List Int) (x z:Int):Prop where
  x0:0 ≤ x
  x7:x ≤ 7
  hx:(8 - (l.length:Int) % 8) % 8=x
  ys:bytesOf l ≠ []
  yb:isB (bytesOf l)
  hl:(bytesOf l).length ≤ 100
  hz:(bytesOf l)[(bytesOf l).length - 1]? = some z
  zb:0 ≤ z ∧ z < 256
  hm:z % 2 ^ x.toNat=0
  en:8 * ((bytesOf l).length:Int) - x=(l.length:Int)
theorem oc (l:List Int) (hb:isBit l) (h0:0 < l.length) (hl:l.length ≤ 400):∃ x z,Oc l x z:=by
  obtain ⟨x,hx⟩:∃ x,(8 - (l.length:Int) % 8) % 8=x:=⟨_,rfl⟩
  have bl:=bytesOf_length l
  have y0:0 < (bytesOf l).length:=by omega
  obtain ⟨z,hz⟩:∃ z,(bytesOf l)[(bytesOf l).length - 1]? = some z:=⟨(bytesOf l)[(bytesOf l).length - 1]'(by omega),List.getElem?_eq_getElem _⟩
  have yb:=bytesOf_isB l hb
  have ny:bytesOf l ≠ []:=List.length_pos_iff.1 y0
  obtain ⟨xn,hxn⟩:=Int.eq_ofNat_of_zero_le (show 0 ≤ x by omega)
  have tl:=tail_bytesOf l hb
  have hm:=(T13.tail (bytesOf l) yb xn l.length z (by omega) ny (by omega) hz).1 tl
  exact ⟨x,z,by omega,by omega,hx,ny,yb,by omega,hz,yb z (List.mem_of_getElem? hz),by subst hxn; simpa using hm,by omega⟩
theorem bt (l:List Int) (hb:isBit l) (x z:Int) (o:Oc l x z) (f c):∀ i v,l[i]? = some v → Con E 60 40 [.sl f (bs (bytesOf l)) c,.int .i64 (l.length:Int),.int .i64 ((i:Nat):Int)] (.bool (v == 1)):=by
  intro i v h
  have K:=T11.chk_ok f c x z (l.length:Int) (bytesOf l) o.x0 o.x7 o.ys o.hl o.hz o.zb o.hm o.en.symm
  have hi:i < l.length:=(List.getElem?_eq_some_iff.1 h).1
  have h2:(bits (bytesOf l))[i]? = some v:=by rw [← take_bytesOf l hb,List.getElem?_take_of_lt hi] at h; exact h
  obtain ⟨j,t,ht,rfl⟩:∃ j t,t < 8 ∧ i=8 * j + t:=⟨i / 8,i % 8,by omega,by omega⟩
  rw [bits_get _ j t ht] at h2
  obtain ⟨y,e1,e2⟩:=Option.bind_eq_some_iff.1 h2
  exact T16.bit_ f c (l.length:Int) v (bytesOf l) j t y o.yb o.hl e1 ht (by omega) K e2
theorem get (l:List Int) (x z:Int) (o:Oc l x z) (f c):Con E 100 31 [.sl f (bs (x :: bytesOf l)) c] (.tup [.sl false (bs (bytesOf l)) (some (bytesOf l).length),.int .i64 (l.length:Int),.int .i64 0]):=by
  have G:=T9.get_ok f c x z (bytesOf l) o.x0 o.x7 o.ys o.hl o.hz o.zb o.hm
  rw [o.en] at G; exact G
structure Nm (l:List Int) (row:List Int):Prop where
  b:isB row
  len:row.length=(l.length + 7) / 8 + 1
  hd:∃ r,row=(8 - (l.length:Int) % 8) % 8 :: r
  put:Con E 500 29 [.int .u64 (W l)] (.sl false (bs row) (some row.length))
  ref:∃ c,Con E 600 30 [.int .u64 (W l)] (.sl false (bs row) c)
  named:∀ f c,Con E 1010 28 [.sl f (bs row) c,.int .u64 (W l),.int .i64 0] (.bool true)
theorem nm (l:List Int) (hb:isBit l) (hl:l.length ≤ 64) (hz:l ≠ [] → l[l.length - 1]? = some 1):∃ row,Nm l row:=by
  by_cases h0:l=[]
  · subst h0
    exact ⟨[0],by simp [isB_cons,isB_nil],rfl,⟨[],rfl⟩,T23.put0,⟨_,T30.put0⟩,fun f c => T24.named f c [0] 0 0 (T18.none_ f c [0] (T9.get_zero f c))⟩
  have h1:0 < l.length:=List.length_pos_iff.2 h0
  obtain ⟨x,z,o⟩:=oc l hb h1 (by omega)
  refine ⟨x :: bytesOf l,isB_cons.2 ⟨⟨o.x0,by have:=o.x7; omega⟩,o.yb⟩,by rw [List.length_cons,bytesOf_length],⟨_,by rw [o.hx]⟩,?_,⟨_,T30.put l hb h1 hl (hz h0) x o.hx⟩,fun f c => ?_⟩
  · exact T23.put l hb h1 hl (hz h0) x o.hx
  · exact T24.named f c _ (W l) 0 (T18.ok_ f c _ (bytesOf l) l hb h1 hl (get l x z o f c) (bt l hb x z o _ _) (hz h0))
theorem orU_ge (a b:Int) (h0:0 ≤ a) (h1:a < 18446744073709551616):a ≤ T17.orU a b ∧ T17.orU a b < 18446744073709551616:=by
  obtain ⟨n,rfl⟩:=Int.eq_ofNat_of_zero_le h0
  unfold T17.orU
  rw [w_u64,BitVec.ofInt_natCast]
  have e:(BitVec.ofNat 64 n).toNat=n:=by rw [BitVec.toNat_ofNat,Nat.mod_eq_of_lt (by omega)]
  have le:n ≤ (BitVec.ofNat 64 n ||| BitVec.ofInt 64 b).toNat:=by
    rw [BitVec.toNat_or,e]; exact Nat.left_le_or
  have lt:=(BitVec.ofNat 64 n ||| BitVec.ofInt 64 b).isLt
  omega
theorem len_mono {l m:List Int} (hb:isBit l) (hc:isBit m) (hz:l ≠ [] → l[l.length - 1]? = some 1) (h:W l ≤ W m):l.length ≤ m.length:=by
  by_cases h0:l=[]
  · subst h0; simp
  have h1:0 < l.length:=List.length_pos_iff.2 h0
  have a:=T23.W_ge l hb h1 (hz h0)
  have b:=(W_lt hc).2
  have c:(2:Int) ^ (l.length - 1) < 2 ^ m.length:=by omega
  have d:(2:Nat) ^ (l.length - 1) < 2 ^ m.length:=by exact_mod_cast c
  have:=(Nat.pow_lt_pow_iff_right (by decide:1 < 2)).1 d
  omega
theorem law (w k:Int) (w0:0 ≤ w) (w1:w < 18446744073709551616) (k0:0 ≤ k) (k1:k < 256):Con E 1200 9 [.int .u64 w,.int .u8 k] (.bool true):=by
  refine .of (g:=[]) rfl ?_
  rw [aCall_fn rfl (E_fn9) rfl (Nat.le_of_ble_eq_true rfl) rfl rfl,body_9,c9]
  obtain ⟨v,hv⟩:∃ v,T17.orU w (2 ^ (k % 64).toNat % 18446744073709551616)=v:=⟨_,rfl⟩
  have ge:=orU_ge w (2 ^ (k % 64).toNat % 18446744073709551616) w0 w1
  rw [hv] at ge
  obtain ⟨l,lb,lw,ll,lz,_,_⟩:=bitsOf 64 w w0 (by simpa using w1)
  obtain ⟨m,mb,mw,ml,mz,_,_⟩:=bitsOf 64 v (by omega) (by simpa using ge.2)
  obtain ⟨r,hr⟩:=nm l lb ll lz
  obtain ⟨s,hs⟩:=nm m mb ml mz
  obtain ⟨rc,rr⟩:=hr.ref
  have P1:=hr.put
  have P2:=hs.put
  have N1:=hr.named
  have N2:=hs.named
  rw [lw] at P1 N1 rr
  rw [mw] at P2 N2
  have lm:=len_mono lb mb lz (by rw [lw,mw]; exact ge.1)
  have sm:=T10.same false false rc r 0 hr.b
  have km:k.tmod 64=k % 64:=Int.tmod_eq_emod_of_nonneg k0
  have mk:min (k % 64).toNat 64=(k % 64).toNat:=by omega
  have kn:¬ k % 64 < 0:=by omega
  have le:(r.length:Int) ≤ (s.length:Int):=by rw [hr.len,hs.len]; omega
  obtain ⟨p,hp⟩:∃ p,(8 - (l.length:Int) % 8) % 8=p:=⟨_,rfl⟩
  obtain ⟨q,hq⟩:∃ q,(8 - (m.length:Int) % 8) % 8=q:=⟨_,rfl⟩
  obtain ⟨r',er⟩:=hr.hd
  obtain ⟨s',es⟩:=hs.hd
  rw [hp] at er
  rw [hq] at es
  have i1:∀ f c hp,indexAddrA E 22 (.sl f (bs r) c) (.int .i64 0) hp=some (.pel [.int .u8 p]):=fun f c hp => at_ f c r 0 _ (by rw [er]; rfl) hp
  have i2:∀ f c hp,indexAddrA E 22 (.sl f (bs s) c) (.int .i64 0) hp=some (.pel [.int .u8 q]):=fun f c hp => at_ f c s 0 _ (by rw [es]; rfl) hp
  have le2:r.length ≤ s.length:=by omega
  have pr:=bs_pure r
  have ps:=bs_pure s
  by_cases lt:r.length < s.length
  · simp [↓T17.i_orU,km,mk,kn,hv,P1,P2,N1,N2,rr,sm,le,le2,lt,i1,i2,-indexAddrA,pr,ps,bs_length,lives]
  · have ge2:q ≤ p:=by
      have a:=hr.len
      have b:=hs.len
      omega
    simp [↓T17.i_orU,km,mk,kn,hv,P1,P2,N1,N2,rr,sm,le,le2,lt,ge2,i1,i2,-indexAddrA,pr,ps,bs_length,lives]
end T31
end
end
