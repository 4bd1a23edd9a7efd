/- Own work, no conditions. -/
import Derived.Test.YtalmnhdnclmhbaaT22
import Derived.Test.YtalmnhdnclmhbaaT11
import Derived.KernelRfl
set_option maxRecDepth 20000
set_option linter.unusedSimpArgs false
set_option linter.unusedVariables false
set_option maxHeartbeats 16000000
section
open Ab Go TabB T1 T2 T3 T4 T5 T6 T11 T14 T20 T21 T22
namespace T23
theorem or8_pow (y:Int) (m:Nat) (h0:0 ≤ y) (h1:y < 256) (hm:m ≤ 7) (hd:y % 2 ^ (m + 1)=0):or8 y (2 ^ m)=y + 2 ^ m:=by
  obtain ⟨a,rfl⟩:=Int.eq_ofNat_of_zero_le h0
  have e:((2:Int) ^ m)=((2 ^ m:Nat):Int):=by exact_mod_cast rfl
  have e2:((2:Int) ^ (m + 1))=((2 ^ (m + 1):Nat):Int):=by exact_mod_cast rfl
  rw [e2] at hd
  have hd':a % 2 ^ (m + 1)=0:=by exact_mod_cast hd
  have pm:2 ^ m < 2 ^ (m + 1):=Nat.pow_lt_pow_right (by decide) (by omega)
  have p7:2 ^ m ≤ 2 ^ 7:=Nat.pow_le_pow_right (by decide) hm
  obtain ⟨q,hq⟩:∃ q,a=q * 2 ^ (m + 1):=⟨a / 2 ^ (m + 1),by have:=Nat.div_add_mod a (2 ^ (m + 1)); rw [hd',Nat.add_zero,Nat.mul_comm] at this; exact this.symm⟩
  have o:=Nat.shiftLeft_add_eq_or_of_lt pm q
  rw [Nat.shiftLeft_eq,← hq] at o
  have al:a < 256:=by omega
  have sum:a + 2 ^ m < 256:=by
    rw [o]; exact Nat.or_lt_two_pow (n:=8) al (by omega)
  unfold or8
  rw [e,BitVec.ofInt_natCast,BitVec.ofInt_natCast,BitVec.toNat_or,BitVec.toNat_ofNat,BitVec.toNat_ofNat,Nat.mod_eq_of_lt al,Nat.mod_eq_of_lt (by omega),← o,w_u8]
  omega
theorem low_zero (l:List Int) (hb:isBit l) (j t:Nat) (ht:t < 8):val (l.take (8 * j + t)) (8 * j) 8 % 2 ^ (7 - t + 1)=0:=by
  rw [T12.val_eight]
  have z:=fun i h => bit_out l (8 * j + t) i h
  have ht2:t=0 ∨ t=1 ∨ t=2 ∨ t=3 ∨ t=4 ∨ t=5 ∨ t=6 ∨ t=7:=by omega
  rcases ht2 with rfl | rfl | rfl | rfl | rfl | rfl | rfl | rfl
  · have a0:=z (8 * j) (by omega)
    rw [a0,z _ (by omega),z _ (by omega),z _ (by omega),z _ (by omega),z _ (by omega),z _ (by omega),z _ (by omega)]; rfl
  · rw [z (8 * j + 1) (by omega),z (8 * j + 2) (by omega),z (8 * j + 3) (by omega),z (8 * j + 4) (by omega),z (8 * j + 5) (by omega),z (8 * j + 6) (by omega),z (8 * j + 7) (by omega)]; simp only [Nat.reduceSub,Nat.reduceAdd,Int.reducePow]; omega
  · rw [z (8 * j + 2) (by omega),z (8 * j + 3) (by omega),z (8 * j + 4) (by omega),z (8 * j + 5) (by omega),z (8 * j + 6) (by omega),z (8 * j + 7) (by omega)]; simp only [Nat.reduceSub,Nat.reduceAdd,Int.reducePow]; omega
  · rw [z (8 * j + 3) (by omega),z (8 * j + 4) (by omega),z (8 * j + 5) (by omega),z (8 * j + 6) (by omega),z (8 * j + 7) (by omega)]; simp only [Nat.reduceSub,Nat.reduceAdd,Int.reducePow]; omega
  · rw [z (8 * j + 4) (by omega),z (8 * j + 5) (by omega),z (8 * j + 6) (by omega),z (8 * j + 7) (by omega)]; simp only [Nat.reduceSub,Nat.reduceAdd,Int.reducePow]; omega
  · rw [z (8 * j + 5) (by omega),z (8 * j + 6) (by omega),z (8 * j + 7) (by omega)]; simp only [Nat.reduceSub,Nat.reduceAdd,Int.reducePow]; omega
  · rw [z (8 * j + 6) (by omega),z (8 * j + 7) (by omega)]; simp only [Nat.reduceSub,Nat.reduceAdd,Int.reducePow]; omega
  · rw [z (8 * j + 7) (by omega)]; simp only [Nat.reduceSub,Nat.reduceAdd,Int.reducePow]; omega
theorem or_bit (l:List Int) (hb:isBit l) (j t:Nat) (ht:t < 8):or8 (val (l.take (8 * j + t)) (8 * j) 8) (128 / 2 ^ t)=val (l.take (8 * j + t)) (8 * j) 8 + 128 / 2 ^ t:=by
  have v:=val_256 (l:=l.take (8 * j + t)) (fun z hz => hb z (List.mem_of_mem_take hz)) (8 * j) 8 (by omega)
  have e:(128:Int) / 2 ^ t=2 ^ (7 - t):=by
    have ht2:t=0 ∨ t=1 ∨ t=2 ∨ t=3 ∨ t=4 ∨ t=5 ∨ t=6 ∨ t=7:=by omega
    rcases ht2 with rfl | rfl | rfl | rfl | rfl | rfl | rfl | rfl <;> rfl
  rw [e]
  exact or8_pow _ (7 - t) v.1 v.2 (by omega) (low_zero l hb j t ht)
theorem fin (call sc) (k1:Nat) (w n:Int) (L:Nat) (ys:List Int) :
    aCode E call sc k1 1 fn29 b29 (cleanS 1 ((firstReg b29).bind fn29.head) (S w n L ys n))=some (.exit 0,⟨[(0,.int .u64 w),(3,.int .i64 n),(4,.ref (1,11,0) 0 L (some L)),(12,.int .i64 n),(13,.int .i64 n),(14,.bool false)],[((1,11,0),⟨bs ys,true,true,true,1,false⟩)]⟩):=by
  have kk:=bs_keys ys
  simp [b29,c29,↓s_seq,↓s_reg,↓s_cond,↓s_cons,s_nil,firstReg,s_val,s_rgx,s_sqn,s_sqe,s_cdb,s_exit,s_clean,o_tmp,l_hit,l_miss,x_bin,bn_s,binA,intOp,keepT,lookK,gcH,reach,keysT,keepK,inKs,AV.keys,kk]
theorem loop (call sc) (k1 k:Nat) (l:List Int) (hb:isBit l) (L:Nat) (hl:l.length ≤ 64) (hL:l.length ≤ 8 * L) (hk:l.length < k) :
    aLoop (aCode E call sc k1 1 fn29 b29) (cleanS 1 ((firstReg b29).bind fn29.head)) k (S (W l) (l.length:Int) L (upto [] L) 0)=some (.exit 0,⟨[(0,.int .u64 (W l)),(3,.int .i64 (l.length:Int)),(4,.ref (1,11,0) 0 L (some L)),(12,.int .i64 (l.length:Int)),(13,.int .i64 (l.length:Int)),(14,.bool false)],[((1,11,0),⟨bs (upto l L),true,true,true,1,false⟩)]⟩):=by
  have wl:=W_lt hb
  have p64:(2:Int) ^ l.length ≤ 18446744073709551616:=by
    have h:2 ^ l.length ≤ 2 ^ 64:=Nat.pow_le_pow_right (by decide) hl
    rw [show (2:Nat) ^ 64=18446744073709551616 from rfl] at h
    have e:((2:Int) ^ l.length)=((2 ^ l.length:Nat):Int):=by exact_mod_cast rfl
    rw [e]; omega
  refine loopR (fun j => S (W l) (l.length:Int) L (upto (l.take j) L) (j:Int)) l.length (by simp) (fun i hi => ?_) ?_ (by simp) hk
  · obtain ⟨x,e⟩:∃ x,l[i]? = some x:=⟨l[i],by simp⟩
    have hx:=hb x (List.mem_of_getElem? e)
    have pk:(0:Int) < 2 ^ i:=Int.pow_pos (by decide)
    have d0:0 ≤ W l / 2 ^ i:=Int.ediv_nonneg wl.1 (by omega)
    have d1:W l / 2 ^ i ≤ W l:=Int.ediv_le_self _ wl.1
    have an:andU (W l / 2 ^ i) 1=x:=by rw [and1 _ d0 (by omega),W_bit l hb i x e]
    rcases hx with rfl | rfl
    · rw [row_zero l L i e]
      exact zero call sc k1 (W l) (l.length:Int) L _ i (by omega) (by omega) wl.1 an
    · obtain ⟨j,t,ht,rfl⟩:∃ j t,t < 8 ∧ i=8 * j + t:=⟨i / 8,i % 8,by omega,by omega⟩
      have hj:j < L:=by omega
      rw [row_one l L j t ht hj e]
      exact one call sc k1 (W l) (l.length:Int) L _ j t _ _ ht (by omega) (by omega) wl.1 (T6.upto_length _ _) (by unfold upto; simp [hj]) an (or_bit l hb j t ht)
  · rw [List.take_length]
    exact fin call sc k1 (W l) (l.length:Int) L (upto l L)
theorem W_ge (l:List Int) (hb:isBit l) (h0:0 < l.length) (hz:l[l.length - 1]? = some 1):2 ^ (l.length - 1) ≤ W l:=by
  have h:=T17.W_take l (l.length - 1) 1 hz
  rw [show l.length - 1 + 1=l.length by omega,List.take_length,Int.one_mul] at h
  have a:=W_lt (l:=l.take (l.length - 1)) fun z hz => hb z (List.mem_of_mem_take hz)
  omega
theorem upto_nil (L:Nat):upto [] L=List.replicate L 0:=by
  unfold upto
  apply List.ext_getElem?
  intro i
  by_cases h:i < L
  · simp [h,T12.val_eight,bit]
  · rw [List.getElem?_eq_none (by simp; omega),List.getElem?_eq_none (by simp; omega)]
theorem put (l:List Int) (hb:isBit l) (h0:0 < l.length) (hl:l.length ≤ 64) (hz:l[l.length - 1]? = some 1) (x:Int) (hx:(8 - (l.length:Int) % 8) % 8=x):Con E 500 29 [.int .u64 (W l)] (.sl false (bs (x :: bytesOf l)) (some ((bytesOf l).length + 1))):=by
  refine .of (g:=[]) rfl ?_
  rw [aCall_fn rfl (E_fn29) rfl (Nat.le_of_ble_eq_true rfl) rfl rfl,body_29,c29]
  obtain ⟨L,eL⟩:∃ L,(l.length + 7) / 8=L:=⟨_,rfl⟩
  have bl:bytesOf l=upto l L:=by unfold bytesOf; rw [eL]
  have ll:(upto l L).length=L:=T6.upto_length _ _
  rw [bl,ll]
  have n64:=len64 (W l) l.length h0 hl (W_ge l hb h0 hz) (W_lt hb).2
  have u:=unused (l.length:Int) x (by omega) (by omega) hx
  have w1:=w64 ((l.length:Int) + 7) (by omega) (by omega)
  have q1:((l.length:Int) + 7).tdiv 8=(L:Int):=by rw [Int.tdiv_eq_ediv_of_nonneg (by omega)]; omega
  have q1':((l.length:Int) + 7) / 8=(L:Int):=by omega
  have w2:=w64 (L:Int) (by omega) (by omega)
  have L0:(L:Int) ≤ 70368744177664:=by omega
  have x8:x % 256=x:=by omega
  have z0:List.replicate L (AV.int .u8 0)=bs (upto [] L):=by rw [upto_nil]; exact bs_zero L
  have lp:=loop (aCall E 499) (dcall (aRun E 499)) 499 499 l hb L hl (by omega) (by omega)
  simp [b29,c29,firstReg] at lp
  have k1:=bs_keys (upto [] L)
  have k2:=bs_keys (upto l L)
  have sl:∀ h cap,lookK h (1,11,0)=some ⟨bs (upto l L),true,true,true,1,false⟩ → sealA 20 h (.ref (1,11,0) 0 L cap)=some (.sl false (bs (upto l L)) cap,setK h (1,11,0) ⟨bs (upto l L),true,false,true,1,false⟩):=fun h cap hk => seal_row (n:=18) hk (by rw [bs_length,ll]) (bs_pure _)
  have j':∀ c,Con E 10 46 [.sl false [.int .u8 x] (some 1),.sl false (bs (upto l L)) c] (.sl false (bs (x :: upto l L)) (some (L + 1))):=fun c => by
    have:=joined false false (some 1) c [x] (upto l L) (by simp) (by omega)
    rw [List.length_singleton,ll,Nat.add_comm] at this
    exact this
  simp [↓s_seq,↓s_reg,↓s_block,↓s_cons,s_nil,s_loop,firstReg,s_val,s_calls,s_cax,s_ret,s_rgx,s_sqn,s_bke,s_ret',s_finr,s_fin1,s_fix,s_clean,o_tmp,o_int,o_nil,l_hit,l_miss,ol_nil,ol_cons,ol_some,x_move,x_assign,x_bin,bn_s,x_callF,cl_no,x_conv,cvx,convA,frame0,binA,intOp,resL,resA,results1,sealA,sealLW,AV.pure,AV.pureL,keepT,x_buildSliceF,bsf,x_makeSlice,msx,newK,genOf,setK,lookK,fillA,writeL,conts,AV.cells,AV.scal,chunk,gcH,reach,keysT,keepK,inKs,AV.keys,Ty.isAgg,w_u8,n64,w1,q1,w2,L0,z0,lp,k1,sl,u,x8,j',-sealA,-sealLW]
theorem put0:Con E 500 29 [.int .u64 0] (.sl false (bs [0]) (some 1)):=.of (g:=[]) rfl (by kernel_rfl:aCall E 500 0 29 [.int .u64 0] []=some (.ret (.sl false [.int .u8 0] (some 1)),[]))
end T23
end
section
open Ab Go TabB
attribute [local simp ↓] s_seq s_reg s_regd s_cond s_block s_cons s_consG
attribute [local simp] s_nil s_loop s_round s_lpn s_lpe s_lpr firstReg s_gt s_gf s_wb s_wu s_val s_valN s_skip s_calls s_callP s_cax lookR flatR pureKs s_ret s_rgx s_sqn s_sqr s_sqe s_cdb s_bkn s_bkr s_bke s_exit s_ret' s_skip' s_finr s_finn s_fin1 s_fix s_clean s_gc0 o_tmp o_int o_bool o_nil o_str o_fn o_nil' l_hit l_miss l_nil ol_nil ol_cons ol_some x_move x_assign x_pick pk_t pk_f x_bin bn_s x_un x_extract x_callF cl_no x_callB x_callBF frzV x_conv cvx convA frame0 binA intOp resL resA results1 sealA sealLW AV.pure AV.pureL keepT x_alloc x_box bxx x_build bdx x_buildSlice bsx x_buildSliceF bsf x_load ldx x_store stx x_slice slx x_fieldAddr x_field x_index ixx x_indexAddr iax x_makeSlice msx x_nilCheck newK genOf setK lookK fillA writeL writeC readC conts TyI.mk1 sliceA boundsA boundsB fitsA numA indexAddrA fieldAddrA partA fieldA indexA appendA copyA builtinA AV.cells AV.scal chunk gcH reach keysT keepK inKs AV.keys AV.keysL Ty.isAgg eq1 eqL convA.go ltI w_u8 w_u32 w_u64 w_i64 w_fdiv w_tdiv w_tmod IntKind.bits unA
section
open Ab Go TabB T1 T2 T3 T4 T5 T6 T14
namespace T24
theorem lives:Con E 100 21 [] (.bool true):=by
  obtain ⟨g,h⟩:=isT_some (show isT (aCall E 100 0 21 [] [])=true by kernel_rfl)
  exact .of (g:=g) rfl h
theorem named (f c) (cs:List Int) (w e:Int) (G:Con E 1000 48 [.sl f (bs cs) c] (.tup [.int .u64 w,.int .i64 e])):Con E 1010 28 [.sl f (bs cs) c,.int .u64 w,.int .i64 e] (.bool true):=by
  refine .of (g:=[]) (by simp [AV.pureL,AV.pure,bs_pure]) ?_
  rw [aCall_fn rfl (E_fn28) (by simp [AV.pureL,AV.pure,bs_pure]) (Nat.le_of_ble_eq_true rfl) rfl rfl,body_28,c28]
  simp [bs_pure,G]
theorem big (f c) (cs:List Int) (h:60 < (cs.length:Int)):Con E 1100 8 [.sl f (bs cs) c] (.bool true):=by
  refine .of (g:=[]) (by simp [AV.pureL,AV.pure,bs_pure]) ?_
  rw [aCall_fn rfl (E_fn8) (by simp [AV.pureL,AV.pure,bs_pure]) (Nat.le_of_ble_eq_true rfl) rfl rfl,body_8,c8]
  simp [bs_pure,bs_length,h,lives]
theorem bad (f c) (cs:List Int) (h:¬ 60 < (cs.length:Int)) (R:Con E 1000 22 [.sl f (bs cs) c] (.tup [.sl true [] (some 0),.int .i64 11])) (G:Con E 100 31 [.sl f (bs cs) c] (.tup [.sl true [] (some 0),.int .i64 0,.int .i64 11])):Con E 1100 8 [.sl f (bs cs) c] (.bool true):=by
  refine .of (g:=[]) (by simp [AV.pureL,AV.pure,bs_pure]) ?_
  rw [aCall_fn rfl (E_fn8) (by simp [AV.pureL,AV.pure,bs_pure]) (Nat.le_of_ble_eq_true rfl) rfl rfl,body_8,c8]
  have B:=bytes_nil true (some 0)
  have rd:=T10.read f c true true (some 0) cs [] 0 11 isB_nil G
  simp only [bs_nil] at rd
  have N1:=T15.err f c cs 11 (by decide) R
  have N2:=named f c cs 0 11 (T18.err f c cs G)
  simp [bs_pure,bs_length,h,lives,R,B,rd,N1,N2]
end T24
end
section
open Ab Go TabB T1 T2 T3 T4 T5 T6 T12 T14 T24
namespace T25
theorem good (f c) (x z:Int) (ys:List Int) (hb:isB ys) (x0:0 ≤ x) (x7:x ≤ 7) (hy:ys ≠ []) (hl:ys.length ≤ 59) (hz:ys[ys.length - 1]? = some z) (hm:z % 2 ^ x.toNat=0):Con E 1100 8 [.sl f (bs (x :: ys)) c] (.bool true):=by
  have hzb:=hb z (List.mem_of_getElem? hz)
  have hy1:0 < ys.length:=List.length_pos_iff.2 hy
  have bl:=bits_length ys
  obtain ⟨xn,rfl⟩:=Int.eq_ofNat_of_zero_le x0
  obtain ⟨n,hn⟩:∃ n,n + xn=8 * ys.length:=⟨8 * ys.length - xn,by omega⟩
  have tl:=(T13.tail ys hb xn n z (by omega) hy hn hz).2 (by simpa using hm)
  obtain ⟨l,el⟩:∃ l,(bits ys).take n=l:=⟨_,rfl⟩
  have ll:l.length=n:=by rw [← el,List.length_take]; omega
  have lb:isBit l:=fun v hv => bits_bit ys hb v (by rw [← el] at hv; exact List.mem_of_mem_take hv)
  have R:=T8.get_ok f c (xn:Int) ys hb x0 x7 hy (by omega) n (by omega) tl
  rw [el] at R
  have G:=T9.get_ok f c (xn:Int) z ys x0 x7 hy (by omega) hz hzb hm
  have en:8 * (ys.length:Int) - (xn:Int)=(l.length:Int):=by omega
  rw [en] at G
  have By:∀ f c,Con E 600 24 [.sl f (is l) c] (.sl false (bs ys) none):=fun f c => by
    have:=bytes_con f c l lb (by omega) (by omega) 600 (by omega)
    have bb:=bytes_back ys hb n xn (by omega) hn tl
    rw [el] at bb
    rw [bb] at this
    exact this
  have cb:isB ((xn:Int) :: ys):=isB_cons.2 ⟨⟨by omega,by omega⟩,hb⟩
  have rd:=T10.read f c false false none ((xn:Int) :: ys) ys (l.length:Int) 0 hb G
  have pt:=T11.put_ok false none (xn:Int) z (l.length:Int) ys x0 x7 hy (by omega) hz hzb hm (by omega)
  have sm:=T10.same false f c ((xn:Int) :: ys) 0 cb
  rw [List.length_cons] at sm
  have K:=T11.chk_ok false (some ys.length) (xn:Int) z (l.length:Int) ys x0 x7 hy (by omega) hz hzb hm (by omega)
  have Bt:∀ i v,l[i]? = some v → Con E 60 40 [.sl false (bs ys) (some ys.length),.int .i64 (l.length:Int),.int .i64 ((i:Nat):Int)] (.bool (v == 1)):=by
    intro i v h
    have hi:i < l.length:=(List.getElem?_eq_some_iff.1 h).1
    have h2:(bits ys)[i]? = some v:=by rw [← el,List.getElem?_take_of_lt (by omega)] at h; exact h
    obtain ⟨j,t,ht,rfl⟩:∃ j t,t < 8 ∧ i=8 * j + t:=⟨i / 8,i % 8,by omega,by omega⟩
    rw [bits_get ys j t ht] at h2
    obtain ⟨y,e1,e2⟩:=Option.bind_eq_some_iff.1 h2
    exact T16.bit_ false (some ys.length) (l.length:Int) v ys j t y hb (by omega) e1 ht (by omega) K e2
  have h60:¬ 60 < (((xn:Int) :: ys).length:Int):=by rw [List.length_cons]; omega
  have lp:=is_pure l
  have ln:=is_length l
  have l0:l ≠ []:=by intro e; rw [e] at ll; simp at ll; omega
  obtain ⟨v,hv⟩:∃ v,l[l.length - 1]? = some v:=⟨l[l.length - 1]'(by omega),List.getElem?_eq_getElem _⟩
  have hv01:=lb v (List.mem_of_getElem? hv)
  have Bl:=Bt (l.length - 1) v hv
  have e1:((l.length - 1:Nat):Int)=(l.length:Int) - 1:=by omega
  rw [e1] at Bl
  refine .of (g:=[]) (by simp [AV.pureL,AV.pure,bs_pure]) ?_
  rw [aCall_fn rfl (E_fn8) (by simp [AV.pureL,AV.pure,bs_pure]) (Nat.le_of_ble_eq_true rfl) rfl rfl,body_8,c8]
  rw [List.length_cons] at h60
  obtain ⟨cs,ec⟩:∃ cs,(xn:Int) :: ys=cs:=⟨_,rfl⟩
  have cl:cs.length=ys.length + 1:=by rw [← ec]; rfl
  have h60':¬ 60 < (cs.length:Int):=by rw [cl]; exact_mod_cast h60
  have h60'':¬ 60 < (ys.length:Int) + 1:=by omega
  rcases hv01 with rfl | rfl
  · have N1:=T15.zero_ f c _ l l0 (by omega) hv R
    have N2:=named f c _ 0 11 (T18.zero_ f c _ ys (l.length:Int) (by omega) (by omega) G Bl)
    rw [ec] at R rd sm pt N1 N2 ⊢
    simp [bs_pure,bs_length,h60',h60'',cl,lives,R,By,lp,ln,rd,pt,sm,N1,N2]
  · by_cases h64:64 < l.length
    · have N1:=T15.big_ f c _ l l0 (by omega) hv h64 R
      have N2:=named f c _ 0 3 (T18.big_ f c _ ys (l.length:Int) (by omega) (by omega) G Bl)
      rw [ec] at R rd sm pt N1 N2 ⊢
      simp [bs_pure,bs_length,h60',h60'',cl,lives,R,By,lp,ln,rd,pt,sm,N1,N2]
    · have N1:=T15.ok_ f c _ l lb l0 hv (by omega) R
      have N2:=named f c _ (W l) 0 (T18.ok_ f c _ ys l lb (by omega) (by omega) G Bt hv)
      have P:=T23.put l lb (by omega) (by omega) hv (xn:Int) (by omega)
      have bb:bytesOf l=ys:=by rw [← el]; exact bytes_back ys hb n xn (by omega) hn tl
      rw [bb] at P
      rw [ec] at R rd sm pt N1 N2 P cb ⊢
      simp [bs_pure,bs_cells,bs_go cb,bs_length,h60',h60'',cl,lives,R,By,lp,ln,rd,pt,sm,N1,N2,P]
end T25
end
section
open Ab Go TabB T1 T2 T3 T4 T5 T6 T12 T14 T24
namespace T26
theorem zero (f c):Con E 1100 8 [.sl f (bs [0]) c] (.bool true):=by
  refine .of (g:=[]) rfl ?_
  rw [aCall_fn rfl (E_fn8) rfl (Nat.le_of_ble_eq_true rfl) rfl rfl,body_8,c8]
  have R:=T8.get_zero f c
  have G:=T9.get_zero f c
  have B:=bytes_nil true (some 0)
  have rd:=T10.read f c false true (some 0) [0] [] 0 0 isB_nil G
  have pt:=T11.put_nil true (some 0)
  have sm:=T10.same false f c [0] 0 (by simp [isB_cons,isB_nil])
  have N1:=T15.none_ f c [0] R
  have N2:=named f c [0] 0 0 (T18.none_ f c [0] G)
  have P:=T23.put0
  have cb:isB [0]:=by simp [isB_cons,isB_nil]
  obtain ⟨cs,ec⟩:∃ cs,[(0:Int)]=cs:=⟨_,rfl⟩
  have cl:cs.length=1:=by rw [← ec]; rfl
  have go:=bs_go cb
  simp only [List.length_singleton,bs_nil] at sm rd
  rw [ec] at R rd sm pt N1 N2 P go ⊢
  simp [bs_pure,bs_cells,go,bs_length,cl,lives,R,B,rd,pt,sm,N1,N2,P]
theorem law (f c) (cs:List Int) (hb:isB cs):Con E 1100 8 [.sl f (bs cs) c] (.bool true):=by
  by_cases h:60 < (cs.length:Int)
  · exact big f c cs h
  match cs,hb,h with
  | [],_,h => exact bad f c [] h (T8.get_nil f c) (T9.get_nil f c)
  | x :: ys,hb,h =>
    obtain ⟨⟨x0,x1⟩,hys⟩:=isB_cons.1 hb
    by_cases h7:7 < x
    · exact bad f c _ h (T8.get_big f c x ys h7) (T9.get_big f c x ys h7)
    by_cases hy:ys=[]
    · subst hy
      by_cases hx:0 < x
      · exact bad f c _ h (T8.get_short f c x hx (by omega)) (T9.get_short f c x hx (by omega))
      · obtain rfl:x=0:=by omega
        exact zero f c
    have hy1:0 < ys.length:=List.length_pos_iff.2 hy
    have hl:ys.length ≤ 59:=by simp at h; omega
    obtain ⟨z,hz⟩:∃ z,ys[ys.length - 1]? = some z:=⟨ys[ys.length - 1]'(by omega),List.getElem?_eq_getElem _⟩
    by_cases hm:z % 2 ^ x.toNat=0
    · exact T25.good f c x z ys hys x0 (by omega) hy hl hz hm
    · have bl:=bits_length ys
      obtain ⟨xn,rfl⟩:=Int.eq_ofNat_of_zero_le x0
      obtain ⟨n,hn⟩:∃ n,n + xn=8 * ys.length:=⟨8 * ys.length - xn,by omega⟩
      have nt:¬ ∀ i,n ≤ i → i < (bits ys).length → (bits ys)[i]? = some 0:=fun q => hm (by simpa using (T13.tail ys hys xn n z (by omega) hy hn hz).1 q)
      rcases T13.first xn (l:=bits ys) (n:=n) (by omega) with q | ⟨j,y,q1,q2,q3⟩
      · exact absurd q nt
      · exact bad f c _ h (T8.get_bad f c (xn:Int) ys hys x0 (by omega) hy (by omega) n (by omega) j y q1 q2 q3) (T9.get_bad f c (xn:Int) z ys x0 (by omega) hy (by omega) hz (hys z (List.mem_of_getElem? hz)) hm)
end T26
end
section
open Ab Go TabB T1 T2 T3 T7 T9 T11 T12 T13
namespace T34
theorem neg (f c) (n:Int) (b:List Int) (h:n < 0):Con E 50 36 [.sl f (bs b) c,.int .i64 n] (.int .i64 1):=by
  refine .of (g:=[]) (by simp [AV.pureL,AV.pure,bs_pure]) ?_
  rw [aCall_fn rfl (E_fn36) (by simp [AV.pureL,AV.pure,bs_pure]) (Nat.le_of_ble_eq_true rfl) rfl rfl,body_36,c36]
  simp [bs_pure,h]
theorem big (f c) (n:Int) (b:List Int) (h:524288 < n):Con E 50 36 [.sl f (bs b) c,.int .i64 n] (.int .i64 3):=by
  refine .of (g:=[]) (by simp [AV.pureL,AV.pure,bs_pure]) ?_
  rw [aCall_fn rfl (E_fn36) (by simp [AV.pureL,AV.pure,bs_pure]) (Nat.le_of_ble_eq_true rfl) rfl rfl,body_36,c36]
  have h0:¬ n < 0:=by omega
  simp [bs_pure,h,h0]
theorem wide (f c) (n:Int) (b:List Int) (h0:0 ≤ n) (h1:n ≤ 524288) (hl:b.length ≤ 1000000) (h:8 * (b.length:Int) - n < 0 ∨ 7 < 8 * (b.length:Int) - n):Con E 50 36 [.sl f (bs b) c,.int .i64 n] (.int .i64 1):=by
  refine .of (g:=[]) (by simp [AV.pureL,AV.pure,bs_pure]) ?_
  rw [aCall_fn rfl (E_fn36) (by simp [AV.pureL,AV.pure,bs_pure]) (Nat.le_of_ble_eq_true rfl) rfl rfl,body_36,c36]
  have n0:¬ n < 0:=by omega
  have n1:¬ 524288 < n:=by omega
  have w1:=w64 (n + 7) (by omega) (by omega)
  have q1:(n + 7).tdiv 8=(n + 7) / 8:=Int.tdiv_eq_ediv_of_nonneg (by omega)
  have q2:¬ (b.length:Int)=(n + 7) / 8:=by omega
  have q3:((b.length:Int) != (n + 7) / 8)=true:=by simp [q2]
  have w2:=w64 ((n + 7) / 8) (by omega) (by omega)
  simp [bs_pure,bs_length,n0,n1,w1,q1,q2,q3,w2,↓s_regD,s_dyn0,s_rgy,barOf]
theorem low (f c) (x z n:Int) (ys:List Int) (h0:0 ≤ x) (h7:x ≤ 7) (hy:ys ≠ []) (hl:ys.length ≤ 65536) (hn8:n ≤ 524288) (hz:ys[ys.length - 1]? = some z) (hzb:0 ≤ z ∧ z < 256) (hm:¬ z % 2 ^ x.toNat=0) (hn:n=8 * (ys.length:Int) - x) :
    Con E 50 36 [.sl f (bs ys) c,.int .i64 n] (.int .i64 1):=by
  refine .of (g:=[]) (by simp [AV.pureL,AV.pure,bs_pure]) ?_
  rw [aCall_fn rfl (E_fn36) (by simp [AV.pureL,AV.pure,bs_pure]) (Nat.le_of_ble_eq_true rfl) rfl rfl,body_36,c36]
  have hy1:0 < ys.length:=List.length_pos_iff.2 hy
  have n0:¬ n < 0:=by omega
  have n1:¬ 524288 < n:=by omega
  have n2:0 < n:=by omega
  have w1:=w64 (n + 7) (by omega) (by omega)
  have q1:(n + 7).tdiv 8=(n + 7) / 8:=Int.tdiv_eq_ediv_of_nonneg (by omega)
  have q2:(n + 7) / 8=(ys.length:Int):=by omega
  have w2:=w64 (ys.length:Int) (by omega) (by omega)
  have e1:((ys.length:Int) - 1)=((ys.length - 1:Nat):Int):=by omega
  have w3:=w64 ((ys.length:Int) - 1) (by omega) (by omega)
  have ix:=at_ f c ys (ys.length - 1) z hz
  rw [← e1] at ix
  have u:=unused n x (by omega) (by omega) (by omega)
  have am:=and8_mask z hzb.1 hzb.2 x.toNat (by omega)
  have hx:x=0 ∨ x=1 ∨ x=2 ∨ x=3 ∨ x=4 ∨ x=5 ∨ x=6 ∨ x=7:=by omega
  rcases hx with rfl | rfl | rfl | rfl | rfl | rfl | rfl | rfl <;> simp at am hm <;> simp [↓i_and,bs_pure,bs_length,n0,n1,n2,w1,q1,q2,w2,w3,-indexAddrA,ix,u,am,hm,↓s_regD,s_dyn0,s_rgy,barOf]
theorem low0 (f c) (x z n:Int) (ys:List Int) (h0:0 ≤ x) (h7:x ≤ 7) (hy:ys ≠ []) (hl:ys.length ≤ 65536) (hn8:n ≤ 524288) (hz:ys[ys.length - 1]? = some z) (hzb:0 ≤ z ∧ z < 256) (hm:z % 2 ^ x.toNat=0) (hn:n=8 * (ys.length:Int) - x) :
    Con E 50 36 [.sl f (bs ys) c,.int .i64 n] (.int .i64 0):=by
  refine .of (g:=[]) (by simp [AV.pureL,AV.pure,bs_pure]) ?_
  rw [aCall_fn rfl (E_fn36) (by simp [AV.pureL,AV.pure,bs_pure]) (Nat.le_of_ble_eq_true rfl) rfl rfl,body_36,c36]
  have hy1:0 < ys.length:=List.length_pos_iff.2 hy
  have n0:¬ n < 0:=by omega
  have n1:¬ 524288 < n:=by omega
  have n2:0 < n:=by omega
  have w1:=w64 (n + 7) (by omega) (by omega)
  have q1:(n + 7).tdiv 8=(n + 7) / 8:=Int.tdiv_eq_ediv_of_nonneg (by omega)
  have q2:(n + 7) / 8=(ys.length:Int):=by omega
  have w2:=w64 (ys.length:Int) (by omega) (by omega)
  have e1:((ys.length:Int) - 1)=((ys.length - 1:Nat):Int):=by omega
  have w3:=w64 ((ys.length:Int) - 1) (by omega) (by omega)
  have ix:=at_ f c ys (ys.length - 1) z hz
  rw [← e1] at ix
  have u:=unused n x (by omega) (by omega) (by omega)
  have am:=and8_mask z hzb.1 hzb.2 x.toNat (by omega)
  rw [hm] at am
  have hx:x=0 ∨ x=1 ∨ x=2 ∨ x=3 ∨ x=4 ∨ x=5 ∨ x=6 ∨ x=7:=by omega
  rcases hx with rfl | rfl | rfl | rfl | rfl | rfl | rfl | rfl <;> simp at am <;> simp [↓i_and,bs_pure,bs_length,n0,n1,n2,w1,q1,q2,w2,w3,-indexAddrA,ix,u,am,↓s_regD,s_dyn0,s_rgy,barOf]
theorem nil0 (f c):Con E 50 36 [.sl f [] c,.int .i64 0] (.int .i64 0):=by
  refine .of (g:=[]) rfl ?_
  rw [aCall_fn rfl (E_fn36) rfl (Nat.le_of_ble_eq_true rfl) rfl rfl,body_36,c36]
  simp [↓s_regD,s_dyn0,s_rgy,barOf]
def ck (b:List Int) (n:Int):Int:=if n < 0 then 1 else if 524288 < n then 3 else if 8 * (b.length:Int) - n < 0 ∨ 7 < 8 * (b.length:Int) - n then 1 else match b.getLast? with
  | none => 0
  | some z => if z % 2 ^ (8 * (b.length:Int) - n).toNat=0 then 0 else 1
theorem last_get {b:List Int} {z:Int} (h:b.getLast? = some z):b ≠ [] ∧ b[b.length - 1]? = some z:=by
  cases b with
  | nil => cases h
  | cons x r => exact ⟨by simp,by rw [← h,List.getLast?_eq_getElem?]⟩
theorem chk (f c) (b:List Int) (n:Int) (hb:isB b) (hl:b.length ≤ 65536):Con E 50 36 [.sl f (bs b) c,.int .i64 n] (.int .i64 (ck b n)):=by
  unfold ck
  by_cases h0:n < 0
  · rw [if_pos h0]; exact neg f c n b h0
  rw [if_neg h0]
  by_cases h1:524288 < n
  · rw [if_pos h1]; exact big f c n b h1
  rw [if_neg h1]
  by_cases h2:8 * (b.length:Int) - n < 0 ∨ 7 < 8 * (b.length:Int) - n
  · rw [if_pos h2]; exact wide f c n b (by omega) (by omega) (by omega) h2
  rw [if_neg h2]
  cases hz:b.getLast? with
  | none =>
    rw [List.getLast?_eq_none_iff] at hz
    subst hz
    simp at h2
    obtain rfl:n=0:=by omega
    exact nil0 f c
  | some z =>
    obtain ⟨hy,hz⟩:=last_get hz
    have hzb:=hb z (List.mem_of_getElem? hz)
    simp only
    by_cases h3:z % 2 ^ (8 * (b.length:Int) - n).toNat=0
    · rw [if_pos h3]; exact low0 f c _ z n b (by omega) (by omega) hy hl (by omega) hz hzb h3 (by omega)
    · rw [if_neg h3]; exact low f c _ z n b (by omega) (by omega) hy hl (by omega) hz hzb h3 (by omega)
end T34
end
end
section
open Ab Go TabB T1 T2 T3 T4 T7 T9 T11 T12 T13
namespace T35
def lps:Code → List Code
  | .seq a b => lps a ++ lps b
  | .block _ b => lps b
  | .cond _ a b => lps a ++ lps b
  | .loop b => [b]
  | _ => []
def lp (c:Code) (i:Nat):Code:=((lps c)[i]?).getD .skip
def b41:Code:=lp c41 0
abbrev S (l:List Int) (i:Int):St:=⟨[(5,.sl false (is l) none),(6,.int .i64 i)],[]⟩
theorem go (call sc) (k1:Nat) (l:List Int) (i:Nat) (h:l[i]? = some 0) (hl:l.length < 1000000) :
    aCode E call sc k1 1 fn41 b41 (cleanS 1 ((firstReg b41).bind fn41.head) (S l (i:Int)))=some (.normal,S l ((i + 1:Nat):Int)):=by
  have hi:i < l.length:=(List.getElem?_eq_some_iff.1 h).1
  have hi2:(i:Int) < (l.length:Int):=by omega
  have ix:=atI false none l i 0 h
  have w:=w64 ((i:Int) + 1) (by omega) (by omega)
  have p:=is_pure l
  have kk:=is_keys l
  have ln:=is_length l
  simp [b41,lp,lps,c41,↓s_seq,↓s_reg,↓s_cond,↓s_block,↓s_cons,s_nil,firstReg,s_val,s_rgx,s_sqn,s_cdb,s_bkn,s_skip',s_clean,o_tmp,o_int,l_hit,l_miss,ol_nil,ol_cons,ol_some,x_move,x_assign,x_bin,bn_s,x_callB,binA,intOp,keepT,x_load,ldx,x_indexAddr,iax,newK,genOf,setK,lookK,writeC,readC,conts,TyI.mk1,appendA,copyA,builtinA,AV.cells,AV.scal,gcH,Ty.isAgg,ln,hi2,ix,w]
theorem bad (call sc) (k1:Nat) (l:List Int) (i:Nat) (x:Int) (h:l[i]? = some x) (hx:¬ x=0) (hl:l.length < 1000000) :
    aCode E call sc k1 1 fn41 b41 (cleanS 1 ((firstReg b41).bind fn41.head) (S l (i:Int)))=some (.ret,⟨[(4,.int .i64 1)],[]⟩):=by
  have hi:i < l.length:=(List.getElem?_eq_some_iff.1 h).1
  have hi2:(i:Int) < (l.length:Int):=by omega
  have ix:=atI false none l i x h
  have e:(x != 0)=true:=by simp [hx]
  have p:=is_pure l
  have kk:=is_keys l
  have ln:=is_length l
  simp [b41,lp,lps,c41,↓s_seq,↓s_reg,↓s_cond,↓s_block,↓s_cons,s_nil,firstReg,s_val,s_rgx,s_sqn,s_sqr,s_cdb,s_bkr,s_ret',s_skip',s_clean,o_tmp,o_int,l_hit,l_miss,ol_nil,ol_cons,ol_some,x_move,x_assign,x_bin,bn_s,x_callB,binA,intOp,keepT,x_load,ldx,x_indexAddr,iax,newK,genOf,setK,lookK,writeC,readC,conts,TyI.mk1,appendA,copyA,builtinA,AV.cells,AV.scal,gcH,Ty.isAgg,ln,hi2,ix,e]
abbrev Out (l:List Int):AExit × St:=(.exit 0,⟨[(5,.sl false (is l) none),(6,.int .i64 (l.length:Int)),(31,.bool false)],[]⟩)
theorem fin (call sc) (k1:Nat) (l:List Int) :
    aCode E call sc k1 1 fn41 b41 (cleanS 1 ((firstReg b41).bind fn41.head) (S l (l.length:Int)))=some (Out l):=by
  have p:=is_pure l
  have kk:=is_keys l
  have ln:=is_length l
  simp [b41,lp,lps,c41,↓s_seq,↓s_reg,↓s_cond,↓s_cons,s_nil,firstReg,s_val,s_rgx,s_sqn,s_sqe,s_cdb,s_exit,s_clean,o_tmp,l_hit,l_miss,ol_nil,ol_cons,ol_some,x_move,x_bin,bn_s,x_callB,binA,intOp,keepT,newK,genOf,setK,lookK,writeC,conts,appendA,copyA,builtinA,AV.cells,AV.scal,gcH,Ty.isAgg,ln]
theorem loop_ok (call sc) (k1 k:Nat) (l:List Int) (n:Nat) (hn:n ≤ l.length) (hz:∀ i,n ≤ i → i < l.length → l[i]? = some 0) (hl:l.length < 1000000) (hk:l.length < k) :
    aLoop (aCode E call sc k1 1 fn41 b41) (cleanS 1 ((firstReg b41).bind fn41.head)) k (S l (n:Int))=some (Out l):=by
  refine loopR (fun j => S l ((n + j:Nat):Int)) (l.length - n) rfl (fun j hj => ?_) ?_ (by simp) (by omega)
  · exact go call sc k1 l (n + j) (hz _ (by omega) (by omega)) hl
  · have e:n + (l.length - n)=l.length:=by omega
    simp only [e]
    exact fin call sc k1 l
theorem loop_bad (call sc) (k1 k:Nat) (l:List Int) (n j:Nat) (x:Int) (hj:l[n + j]? = some x) (hx:¬ x=0) (hz:∀ i,i < j → l[n + i]? = some 0) (hl:l.length < 1000000) (hk:l.length < k) :
    aLoop (aCode E call sc k1 1 fn41 b41) (cleanS 1 ((firstReg b41).bind fn41.head)) k (S l (n:Int))=some (.ret,⟨[(4,.int .i64 1)],[]⟩):=by
  have hlt:n + j < l.length:=(List.getElem?_eq_some_iff.1 hj).1
  exact loopR (fun j => S l ((n + j:Nat):Int)) j rfl (fun i hi => go call sc k1 l (n + i) (hz i hi) hl) (bad call sc k1 l (n + j) x hj hx hl) (by simp) (by omega)
theorem early (f c) (b:List Int) (n:Int) (hl:b.length ≤ 100) (v:Int) (h:(n < 0 ∧ v=1) ∨ (524288 < n ∧ v=3) ∨ (0 ≤ n ∧ n ≤ 524288 ∧ (8 * (b.length:Int) - n < 0 ∨ 7 < 8 * (b.length:Int) - n) ∧ v=1)):Con E 1000 41 [.sl f (bs b) c,.int .i64 n] (.int .i64 v):=by
  refine .of (g:=[]) (by simp [AV.pureL,AV.pure]) ?_
  rw [aCall_fn rfl (E_fn41) (by simp [AV.pureL,AV.pure]) (Nat.le_of_ble_eq_true rfl) rfl rfl,body_41,c41]
  rcases h with ⟨h,rfl⟩ | ⟨h,rfl⟩ | ⟨h0,h1,h2,rfl⟩
  · simp [↓s_seq,↓s_reg,↓s_cond,↓s_cons,s_nil,s_val,s_rgx,s_sqn,s_sqr,s_cdb,s_ret',s_finr,s_fin1,s_fix,s_clean,o_tmp,o_int,l_hit,l_miss,x_move,x_assign,x_bin,bn_s,frame0,binA,intOp,resL,resA,results1,sealA,AV.pure,keepT,gcH,h]
  · have h0:¬ n < 0:=by omega
    simp [↓s_seq,↓s_reg,↓s_cond,↓s_cons,s_nil,s_val,s_rgx,s_sqn,s_sqr,s_cdb,s_ret',s_skip',s_finr,s_fin1,s_fix,s_clean,o_tmp,o_int,l_hit,l_miss,x_move,x_assign,x_bin,bn_s,frame0,binA,intOp,resL,resA,results1,sealA,AV.pure,keepT,gcH,h,h0]
  · have n0:¬ n < 0:=by omega
    have n1:¬ 524288 < n:=by omega
    have w1:=w64 (8 * (b.length:Int)) (by omega) (by omega)
    have w2:IntKind.i64.wrap (8 * (b.length:Int) - n)=8 * (b.length:Int) - n:=Go.IntWalk.i64_in _ (by omega)
    by_cases q:8 * (b.length:Int) - n < 0
    · have q':8 * (b.length:Int) < n:=by omega
      simp [↓s_seq,↓s_reg,↓s_cond,↓s_cons,↓s_consG,s_nil,s_gf,s_wb,s_val,s_rgx,s_sqn,s_sqr,s_cdb,s_ret',s_skip',s_finr,s_fin1,s_fix,s_clean,o_tmp,o_int,o_bool,l_hit,l_miss,ol_nil,ol_cons,ol_some,x_move,x_assign,x_pick,pk_t,x_bin,bn_s,x_callB,frame0,binA,intOp,resL,resA,results1,sealA,AV.pure,keepT,newK,genOf,setK,lookK,writeC,conts,appendA,copyA,builtinA,AV.cells,AV.scal,gcH,Ty.isAgg,bs_length,n0,n1,w1,w2,q]
    · have q':¬ 8 * (b.length:Int) < n:=by omega
      have q2:7 < 8 * (b.length:Int) - n:=by omega
      simp [↓s_seq,↓s_reg,↓s_cond,↓s_cons,↓s_consG,s_nil,s_gt,s_wb,s_val,s_rgx,s_sqn,s_sqr,s_cdb,s_ret',s_skip',s_finr,s_fin1,s_fix,s_clean,o_tmp,o_int,l_hit,l_miss,ol_nil,ol_cons,ol_some,x_move,x_assign,x_pick,pk_f,x_bin,bn_s,x_callB,frame0,binA,intOp,resL,resA,results1,sealA,AV.pure,keepT,newK,genOf,setK,lookK,writeC,conts,appendA,copyA,builtinA,AV.cells,AV.scal,gcH,Ty.isAgg,bs_length,n0,n1,w1,w2,q,q2]
theorem nil0 (f c):Con E 1000 41 [.sl f (bs []) c,.int .i64 0] (.int .i64 0):=by
  have B:=fun f c => bits_nil f c
  simp only [bs_nil] at B
  refine .of (g:=[]) (by simp [AV.pureL,AV.pure]) ?_
  rw [aCall_fn rfl (E_fn41) (by simp [AV.pureL,AV.pure]) (Nat.le_of_ble_eq_true rfl) rfl rfl,body_41,c41]
  simp [↓s_seq,↓s_reg,↓s_cond,↓s_block,↓s_cons,↓s_consG,s_nil,s_loop,s_round,s_lpe,firstReg,s_gt,s_wb,s_val,s_calls,s_cax,s_ret,s_rgx,s_sqn,s_sqe,s_cdb,s_bke,s_exit,s_ret',s_skip',s_finr,s_fin1,s_fix,s_clean,o_tmp,o_int,l_hit,l_miss,ol_nil,ol_cons,ol_some,x_move,x_assign,x_pick,pk_f,x_bin,bn_s,x_callF,cl_no,x_callB,frame0,binA,intOp,resL,resA,results1,sealA,sealLW,AV.pure,AV.pureL,keepT,newK,genOf,setK,lookK,writeC,conts,appendA,copyA,builtinA,AV.cells,AV.scal,gcH,Ty.isAgg,w_i64,bs_nil,B]
theorem zeros (f c) (b:List Int) (hb:isB b) (hy:b ≠ []) (hl:b.length ≤ 60) (n:Nat) (h0:n ≤ 8 * b.length) (h7:8 * b.length - n ≤ 7) (hz:∀ i,n ≤ i → i < (bits b).length → (bits b)[i]? = some 0):Con E 1000 41 [.sl f (bs b) c,.int .i64 (n:Int)] (.int .i64 0):=by
  have hy1:0 < b.length:=List.length_pos_iff.2 hy
  have bl:=bits_length b
  have B:=fun f c => bits_con f c b hb (by omega) hy1 500 (by omega)
  have L:=loop_ok (aCall E 999) (dcall (aRun E 999)) 999 999 (bits b) n (by omega) hz (by omega) (by omega)
  simp [b41,lp,lps,c41,firstReg] at L
  have n0:¬ (n:Int) < 0:=by omega
  have n1:¬ 524288 < (n:Int):=by omega
  have w1:=w64 (8 * (b.length:Int)) (by omega) (by omega)
  have w2:=w64 (8 * (b.length:Int) - n) (by omega) (by omega)
  have q:¬ 8 * (b.length:Int) - n < 0:=by omega
  have q':¬ 8 * (b.length:Int) < n:=by omega
  have q2:¬ 7 < 8 * (b.length:Int) - n:=by omega
  refine .of (g:=[]) (by simp [AV.pureL,AV.pure]) ?_
  rw [aCall_fn rfl (E_fn41) (by simp [AV.pureL,AV.pure]) (Nat.le_of_ble_eq_true rfl) rfl rfl,body_41,c41]
  simp [↓s_seq,↓s_reg,↓s_cond,↓s_block,↓s_cons,↓s_consG,s_nil,s_loop,firstReg,s_gt,s_wb,s_val,s_calls,s_cax,s_ret,s_rgx,s_sqn,s_cdb,s_bke,s_ret',s_skip',s_finr,s_fin1,s_fix,s_clean,o_tmp,o_int,l_hit,l_miss,ol_nil,ol_cons,ol_some,x_move,x_assign,x_pick,pk_f,x_bin,bn_s,x_callF,cl_no,x_callB,frame0,binA,intOp,resL,resA,results1,sealA,sealLW,AV.pure,AV.pureL,keepT,newK,genOf,setK,lookK,writeC,conts,appendA,copyA,builtinA,AV.cells,AV.scal,gcH,Ty.isAgg,bs_length,n0,n1,w1,w2,q,q2,B,L]
theorem some1 (f c) (b:List Int) (hb:isB b) (hy:b ≠ []) (hl:b.length ≤ 60) (n j:Nat) (x:Int) (h0:n ≤ 8 * b.length) (h7:8 * b.length - n ≤ 7) (hj:(bits b)[n + j]? = some x) (hx:¬ x=0) (hz:∀ i,i < j → (bits b)[n + i]? = some 0):Con E 1000 41 [.sl f (bs b) c,.int .i64 (n:Int)] (.int .i64 1):=by
  have hy1:0 < b.length:=List.length_pos_iff.2 hy
  have bl:=bits_length b
  have B:=fun f c => bits_con f c b hb (by omega) hy1 500 (by omega)
  have L:=loop_bad (aCall E 999) (dcall (aRun E 999)) 999 999 (bits b) n j x hj hx hz (by omega) (by omega)
  simp [b41,lp,lps,c41,firstReg] at L
  have n0:¬ (n:Int) < 0:=by omega
  have n1:¬ 524288 < (n:Int):=by omega
  have w1:=w64 (8 * (b.length:Int)) (by omega) (by omega)
  have w2:=w64 (8 * (b.length:Int) - n) (by omega) (by omega)
  have q:¬ 8 * (b.length:Int) - n < 0:=by omega
  have q':¬ 8 * (b.length:Int) < n:=by omega
  have q2:¬ 7 < 8 * (b.length:Int) - n:=by omega
  refine .of (g:=[]) (by simp [AV.pureL,AV.pure]) ?_
  rw [aCall_fn rfl (E_fn41) (by simp [AV.pureL,AV.pure]) (Nat.le_of_ble_eq_true rfl) rfl rfl,body_41,c41]
  simp [↓s_seq,↓s_reg,↓s_cond,↓s_block,↓s_cons,↓s_consG,s_nil,s_loop,firstReg,s_gt,s_wb,s_val,s_calls,s_cax,s_ret,s_rgx,s_sqn,s_sqr,s_cdb,s_bkr,s_skip',s_finr,s_fin1,s_fix,s_clean,o_tmp,o_int,l_hit,l_miss,ol_nil,ol_cons,ol_some,x_move,x_assign,x_pick,pk_f,x_bin,bn_s,x_callF,cl_no,x_callB,frame0,binA,intOp,resL,resA,results1,sealA,sealLW,AV.pure,AV.pureL,keepT,newK,genOf,setK,lookK,writeC,conts,appendA,copyA,builtinA,AV.cells,AV.scal,gcH,Ty.isAgg,bs_length,n0,n1,w1,w2,q,q2,B,L]
theorem rchk (f c) (b:List Int) (n:Int) (hb:isB b) (hl:b.length ≤ 60):Con E 1000 41 [.sl f (bs b) c,.int .i64 n] (.int .i64 (T34.ck b n)):=by
  unfold T34.ck
  by_cases h0:n < 0
  · rw [if_pos h0]; exact early f c b n (by omega) 1 (.inl ⟨h0,rfl⟩)
  rw [if_neg h0]
  by_cases h1:524288 < n
  · rw [if_pos h1]; exact early f c b n (by omega) 3 (.inr (.inl ⟨h1,rfl⟩))
  rw [if_neg h1]
  by_cases h2:8 * (b.length:Int) - n < 0 ∨ 7 < 8 * (b.length:Int) - n
  · rw [if_pos h2]; exact early f c b n (by omega) 1 (.inr (.inr ⟨by omega,by omega,h2,rfl⟩))
  rw [if_neg h2]
  cases hz:b.getLast? with
  | none =>
    rw [List.getLast?_eq_none_iff] at hz
    subst hz
    simp at h2
    obtain rfl:n=0:=by omega
    exact nil0 f c
  | some z =>
    obtain ⟨hy,hz⟩:=T34.last_get hz
    simp only
    obtain ⟨m,rfl⟩:=Int.eq_ofNat_of_zero_le (show 0 ≤ n by omega)
    have bl:=bits_length b
    have tl:=T13.tail b hb (8 * b.length - m) m z (by omega) hy (by omega) hz
    have e:(8 * (b.length:Int) - (m:Int)).toNat=8 * b.length - m:=by omega
    rw [e]
    by_cases h3:z % 2 ^ (8 * b.length - m)=0
    · rw [if_pos h3]; exact zeros f c b hb hy hl m (by omega) (by omega) (tl.2 h3)
    · rw [if_neg h3]
      rcases T13.first (8 * b.length - m) (l:=bits b) (n:=m) (by omega) with q | ⟨j,y,q1,q2,q3⟩
      · exact absurd (tl.1 q) h3
      · exact some1 f c b hb hy hl m j y (by omega) (by omega) q1 q2 q3
end T35
end
section
open Ab Go T1 T2 T4 T5 T6 T12 T14
namespace T28
theorem bitsOf:∀ (k:Nat) (w:Int),0 ≤ w → w < 2 ^ k → ∃ l:List Int,isBit l ∧ W l=w ∧ l.length ≤ k ∧ (l ≠ [] → l[l.length - 1]? = some 1) ∧ (w=0 → l=[]) ∧ (0 < w → l ≠ [])
  | 0,w,h0,h1 => ⟨[],fun x hx => by simp at hx,by simp at h1; simp [W]; omega,by simp,fun h => absurd rfl h,fun _ => rfl,fun h => by simp at h1; omega⟩
  | k + 1,w,h0,h1 => by
    by_cases hw:w=0
    · exact ⟨[],fun x hx => by simp at hx,by simp [W,hw],by simp,fun h => absurd rfl h,fun _ => rfl,fun h => by omega⟩
    obtain ⟨l,a1,a2,a3,a4,a5,a6⟩:=bitsOf k (w / 2) (by omega) (by rw [Int.pow_succ] at h1; omega)
    refine ⟨(w % 2) :: l,?_,by simp only [W,a2]; omega,by simpa using a3,fun _ => ?_,fun h => absurd h hw,fun _ => by simp⟩
    · intro x hx
      rcases List.mem_cons.1 hx with rfl | hx
      · omega
      · exact a1 x hx
    · by_cases hl:l=[]
      · subst hl
        simp [W] at a2
        have:w % 2=1:=by omega
        simp [this]
      · have:=a4 hl
        have hp:0 < l.length:=List.length_pos_iff.2 hl
        rw [List.length_cons,show l.length + 1 - 1=(l.length - 1) + 1 by omega,List.getElem?_cons_succ]
        exact this
theorem b8_of (c0 c1 c2 c3 c4 c5 c6 c7:Int) (h0:c0=0 ∨ c0=1) (h1:c1=0 ∨ c1=1) (h2:c2=0 ∨ c2=1) (h3:c3=0 ∨ c3=1) (h4:c4=0 ∨ c4=1) (h5:c5=0 ∨ c5=1) (h6:c6=0 ∨ c6=1) (h7:c7=0 ∨ c7=1) :
    b8 (128 * c0 + 64 * c1 + 32 * c2 + 16 * c3 + 8 * c4 + 4 * c5 + 2 * c6 + c7)=[c0,c1,c2,c3,c4,c5,c6,c7]:=by
  have l0:0 ≤ c0 ∧ c0 ≤ 1:=by omega
  have l1:0 ≤ c1 ∧ c1 ≤ 1:=by omega
  have l2:0 ≤ c2 ∧ c2 ≤ 1:=by omega
  have l3:0 ≤ c3 ∧ c3 ≤ 1:=by omega
  have l4:0 ≤ c4 ∧ c4 ≤ 1:=by omega
  have l5:0 ≤ c5 ∧ c5 ≤ 1:=by omega
  have l6:0 ≤ c6 ∧ c6 ≤ 1:=by omega
  have l7:0 ≤ c7 ∧ c7 ≤ 1:=by omega
  clear h0 h1 h2 h3 h4 h5 h6 h7
  unfold b8
  congr 1
  · omega
  congr 1
  · omega
  congr 1
  · omega
  congr 1
  · omega
  congr 1
  · omega
  congr 1
  · omega
  congr 1
  · omega
  congr 1
  omega
theorem b8_val (l:List Int) (hb:isBit l) (p t:Nat) (ht:t < 8):(b8 (val l p 8))[t]? = some (bit l (p + t)):=by
  rw [val_eight,b8_of _ _ _ _ _ _ _ _ (bit_01 hb p) (bit_01 hb _) (bit_01 hb _) (bit_01 hb _) (bit_01 hb _) (bit_01 hb _) (bit_01 hb _) (bit_01 hb _)]
  have ht2:t=0 ∨ t=1 ∨ t=2 ∨ t=3 ∨ t=4 ∨ t=5 ∨ t=6 ∨ t=7:=by omega
  rcases ht2 with rfl | rfl | rfl | rfl | rfl | rfl | rfl | rfl <;> rfl
theorem upto_get (l:List Int) (L j:Nat) (h:j < L):(upto l L)[j]? = some (val l (8 * j) 8):=by unfold upto; simp [h]
theorem bytesOf_isB (l:List Int) (hb:isBit l):isB (bytesOf l):=by
  intro x hx
  unfold bytesOf upto at hx
  obtain ⟨j,_,rfl⟩:=List.mem_map.1 hx
  exact val_256 hb _ 8 (by omega)
theorem bytesOf_length (l:List Int):(bytesOf l).length=(l.length + 7) / 8:=T6.upto_length _ _
theorem bits_bytesOf (l:List Int) (hb:isBit l) (i:Nat) (h:i < 8 * ((l.length + 7) / 8)):(bits (bytesOf l))[i]? = some (bit l i):=by
  obtain ⟨j,t,ht,rfl⟩:∃ j t,t < 8 ∧ i=8 * j + t:=⟨i / 8,i % 8,by omega,by omega⟩
  rw [bits_get _ j t ht]
  have:(bytesOf l)[j]? = some (val l (8 * j) 8):=upto_get l _ j (by omega)
  rw [this]
  exact b8_val l hb (8 * j) t ht
theorem take_bytesOf (l:List Int) (hb:isBit l):(bits (bytesOf l)).take l.length=l:=by
  have bl:=bits_length (bytesOf l)
  rw [bytesOf_length] at bl
  apply List.ext_getElem?
  intro i
  by_cases h:i < l.length
  · rw [List.getElem?_take_of_lt h,bits_bytesOf l hb i (by omega)]
    unfold bit
    rw [List.getElem?_eq_getElem h]; rfl
  · rw [List.getElem?_eq_none (by simp; omega),List.getElem?_eq_none (by omega)]
theorem tail_bytesOf (l:List Int) (hb:isBit l):∀ i,l.length ≤ i → i < (bits (bytesOf l)).length → (bits (bytesOf l))[i]? = some 0:=by
  intro i h1 h2
  have bl:=bits_length (bytesOf l)
  rw [bytesOf_length] at bl
  rw [bits_bytesOf l hb i (by omega)]
  unfold bit
  rw [List.getElem?_eq_none (by omega)]; rfl
end T28
end
