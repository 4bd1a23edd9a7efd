/- Own work, no conditions. -/
import Derived.Test.YtbiildmljbcmeaaDoorTabEe
import Derived.Test.YtbiildmljbcmeaaDoorB40e
import Derived.Test.YtbiildmljbcmeaaDoorB32
import Derived.Test.YtbiildmljbcmeaaDoorB18
import Derived.KernelRfl
set_option maxRecDepth 20000
set_option linter.unusedSimpArgs false
set_option linter.unusedVariables false
set_option maxHeartbeats 16000000
section
open Ab Go TabE
namespace T1
theorem w64 (n:Int) (h0:0 ≤ n) (h1:n < 4294967296):IntKind.i64.wrap n=n:=Go.IntWalk.i64_in _ (by omega)
theorem kL_app:∀ (a b:List AV),AV.keysL (a ++ b)=AV.keysL a ++ AV.keysL b
  | [],b => rfl
  | x :: a,b => by simp [AV.keysL,kL_app a b]
theorem loopR {f:St → Option (AExit × St)} {cl:St → St} {k:Nat} {s0:St} {r:AExit × St} (S:Nat → St) (N:Nat) (h0:s0=S 0) (step:∀ i,i < N → f (cl (S i))=some (.normal,S (i + 1))) (last:f (cl (S N))=some r) (hr:r.1 ≠ .normal) (hk:N < k):aLoop f cl k s0=some r:=by
  subst h0
  have gen:∀ m i k,i + m=N → m < k → aLoop f cl k (S i)=some r:=by
    intro m
    induction m with
    | zero =>
      intro i k hi hk
      obtain rfl:i=N:=by omega
      obtain ⟨k,rfl⟩:∃ j,k=j + 1:=⟨k - 1,by omega⟩
      simp only [aLoop,last]
      obtain ⟨e,s⟩:=r
      cases e <;> first | rfl | exact absurd rfl hr
    | succ m ih =>
      intro i k hi hk
      obtain ⟨k,rfl⟩:∃ j,k=j + 1:=⟨k - 1,by omega⟩
      simp only [aLoop,step i (by omega)]
      exact ih (i + 1) k (by omega) (by omega)
  exact gen N 0 k (by omega) hk
abbrev S (f:Bool) (XS:List AV) (c:Option Nat) (i k:Int) (m n:Nat) (ys:List AV):St:=⟨[(0,.sl f XS c),(3,.ref (1,26,m) 0 n none),(4,.int .i64 i),(5,.int .i64 k)],[((1,26,m),⟨ys,true,true,false,1,false⟩)]⟩
def is (l:List Int):List AV:=l.map (.int .i64)
theorem is_app (a b):is (a ++ b)=is a ++ is b:=List.map_append ..
theorem is_length (l):(is l).length=l.length:=List.length_map ..
theorem is_pure:∀ l,AV.pureL (is l)=true
  | [] => rfl
  | x :: l => by have:=is_pure l; simpa [is,AV.pureL,AV.pure] using this
theorem is_keys:∀ l,AV.keysL (is l)=[]
  | [] => rfl
  | x :: l => by have:=is_keys l; simpa [is,AV.keysL,AV.keys] using this
theorem is_scal:∀ l,(is l).all AV.scal=true
  | [] => rfl
  | x :: l => by have:=is_scal l; simp [is,AV.scal]
theorem aLoop_succ {f:St → Option (AExit × St)} {cl:St → St} {k:Nat} {s s':St} (h:f (cl s)=some (.normal,s')):aLoop f cl (k + 1) s=aLoop f cl k s':=by simp only [aLoop,h]
theorem aLoop_end {f:St → Option (AExit × St)} {cl:St → St} {k:Nat} {s s':St} {e} (h:f (cl s)=some (e,s')) (he:e ≠ .normal):aLoop f cl (k + 1) s=some (e,s'):=by
  simp only [aLoop,h]
  cases e <;> first | rfl | exact absurd rfl he
end T1
end
section
open Ab Go TabE T1
namespace T2
abbrev O (f:Bool) (XS:List AV) (c:Option Nat) (i:Int) (m n:Nat) (ys:List AV):St:=⟨[(0,.sl f XS c),(3,.ref (1,26,m) 0 n none),(4,.int .i64 i)],[((1,26,m),⟨ys,true,true,false,1,false⟩)]⟩
theorem at_ (f c) (xs:List Int) (i:Nat) (x:Int) (h:xs[i]? = some x):∀ hp,indexAddrA E 26 (.sl f (bs xs) c) (.int .i64 i) hp=some (.pel [.int .u8 x]):=by
  intro hp
  have hl:i < xs.length:=(List.getElem?_eq_some_iff.1 h).1
  have e:(bs xs)[i]? = some (.int .u8 x):=by rw [bs_get,h]; rfl
  unfold indexAddrA
  simp only [E_ty26]
  rw [if_pos ⟨by omega,by rw [bs_length]; omega⟩]
  simp only [Int.toNat_natCast,e,E_ty5]
  simp [AV.cells,AV.scal]
theorem chunk_one':∀ (l:List AV),chunk false 1 l.length l=l
  | [] => rfl
  | x :: l => by simp [chunk,chunk_one' l]
theorem seal_row {n:Nat} {h:Heap} {key:Key} {ys:List AV} {len cap mt ex} (hk:lookK h key=some ⟨ys,true,mt,ex,1,false⟩) (hl:len=ys.length) (hp:AV.pureL ys=true):sealA (n + 2) h (.ref key 0 len cap)=some (.sl false ys cap,setK h key ⟨ys,true,false,ex,1,false⟩):=by
  subst hl
  unfold sealA
  simp only [AV.pure,Bool.false_eq_true,if_false,hk,List.drop_zero,Nat.mul_one,List.take_length,Nat.zero_add]
  rw [if_pos ⟨trivial,Nat.le_refl _,fun _ => trivial⟩,sealL_of_pure n _ _ hp]
  simp only [chunk_one']
end T2
end
section
open Ab Go TabE T1 T2
namespace T3
theorem bs_keys (l):AV.keysL (bs l)=[]:=AV.keysL_pure _ (bs_pure l)
theorem bs_zero (n:Nat):List.replicate n (AV.int .u8 0)=bs (List.replicate n 0):=by simp [bs]
theorem w_first (xs:List Int) (n:Nat):writeL (bs (List.replicate (xs.length + n) 0)) 0 (bs xs)=bs (xs ++ List.replicate n 0):=by
  simp [writeL,bs]
theorem w_then (xs ys:List Int):writeL (bs (xs ++ List.replicate ys.length 0)) xs.length (bs ys)=bs (xs ++ ys):=by
  unfold writeL
  rw [bs_append,List.take_left' (bs_length xs),bs_length,bs_append,List.drop_eq_nil_of_le (by simp [bs]),List.append_nil]
theorem wc1 (xs:List Int) (n:Nat):writeC [((1,12,0),⟨bs (List.replicate (xs.length + n) 0),true,true,true,1,false⟩)] (1,12,0) 0 (bs xs)=some [((1,12,0),⟨bs (xs ++ List.replicate n 0),true,true,true,1,false⟩)]:=by
  unfold writeC
  simp only [lookK,if_true]
  rw [if_pos ⟨trivial,trivial,by simp [bs],bs_scal xs⟩,w_first]
  simp [setK]
theorem wc2 (xs ys:List Int):writeC [((1,12,0),⟨bs (xs ++ List.replicate ys.length 0),true,true,true,1,false⟩)] (1,12,0) xs.length (bs ys)=some [((1,12,0),⟨bs (xs ++ ys),true,true,true,1,false⟩)]:=by
  unfold writeC
  simp only [lookK,if_true]
  rw [if_pos ⟨trivial,trivial,by simp [bs],bs_scal ys⟩,w_then]
  simp [setK]
theorem joined (f g c d) (xs ys:List Int) (hx:xs.length < 1000000) (hy:ys.length < 1000000):Con E 10 123 [.sl f (bs xs) c,.sl g (bs ys) d] (.sl false (bs (xs ++ ys)) (some (xs.length + ys.length))):=by
  refine .of (g:=[]) (by simp [AV.pureL,AV.pure]) ?_
  rw [aCall_fn rfl (E_fn123) (by simp [AV.pureL,AV.pure]) (Nat.le_of_ble_eq_true rfl) rfl rfl,body_123,c123]
  have w:=w64 ((xs.length:Int) + (ys.length:Int)) (by omega) (by omega)
  have n0:(0:Int) ≤ (xs.length:Int) + (ys.length:Int):=by omega
  have n1:(xs.length:Int) + (ys.length:Int) ≤ 70368744177664:=by omega
  have n2:((xs.length:Int) + (ys.length:Int)).toNat=xs.length + ys.length:=by omega
  have m1:min xs.length (xs.length + ys.length)=xs.length:=by omega
  have m2:min ys.length ys.length=ys.length:=by omega
  have w1:=wc1 xs ys.length
  have w2:=wc2 xs ys
  have w3:=w64 (xs.length:Int) (by omega) (by omega)
  have w4:=w64 (ys.length:Int) (by omega) (by omega)
  have k:=bs_keys
  have sl:∀ h,lookK h (1,12,0)=some ⟨bs (xs ++ ys),true,true,true,1,false⟩ → sealA 20 h (.ref (1,12,0) 0 (xs.length + ys.length) (some (xs.length + ys.length)))=some (.sl false (bs (xs ++ ys)) (some (xs.length + ys.length)),setK h (1,12,0) ⟨bs (xs ++ ys),true,false,true,1,false⟩):=fun h hk => seal_row (n:=18) hk (by rw [bs_length]; simp) (bs_pure _)
  by_cases hy0:ys=[]
  · subst hy0
    by_cases hx0:xs=[]
    · subst hx0
      simp [↓s_seq,↓s_reg,↓s_cons,s_nil,s_val,s_rgx,s_sqn,s_ret',s_finr,s_fin1,s_fix,s_clean,o_tmp,o_nil,l_hit,l_miss,ol_nil,ol_cons,ol_some,x_move,x_assign,x_bin,bn_s,x_callB,frame0,binA,intOp,resL,resA,results1,sealA,AV.pure,keepT,x_slice,slx,x_makeSlice,msx,newK,genOf,setK,lookK,writeL,writeC,conts,sliceA,boundsA,boundsB,fitsA,numA,appendA,copyA,builtinA,AV.cells,AV.scal,gcH,reach,keysT,keepK,inKs,AV.keys,AV.keysL,Ty.isAgg,w_i64,bs_nil]
    · have hx1:0 < xs.length:=List.length_pos_iff.2 hx0
      have v1:writeC [((1,12,0),⟨bs (List.replicate xs.length 0),true,true,true,1,false⟩)] (1,12,0) 0 (bs xs)=some [((1,12,0),⟨bs xs,true,true,true,1,false⟩)]:=by simpa using wc1 xs 0
      have v2:(xs.length:Int) ≤ 70368744177664:=by omega
      have v3:∀ h,lookK h (1,12,0)=some ⟨bs xs,true,true,true,1,false⟩ → sealA 20 h (.ref (1,12,0) 0 xs.length (some xs.length))=some (.sl false (bs xs) (some xs.length),setK h (1,12,0) ⟨bs xs,true,false,true,1,false⟩):=fun h hk => seal_row (n:=18) hk (by rw [bs_length]) (bs_pure _)
      have v4:min xs.length xs.length=xs.length:=by omega
      simp [↓s_seq,↓s_reg,↓s_cons,s_nil,s_val,s_rgx,s_sqn,s_ret',s_finr,s_fin1,s_fix,s_clean,o_tmp,o_nil,l_hit,l_miss,ol_nil,ol_cons,ol_some,x_move,x_assign,x_bin,bn_s,x_callB,frame0,binA,intOp,resL,resA,results1,AV.pure,keepT,x_slice,slx,x_makeSlice,msx,newK,genOf,setK,lookK,conts,sliceA,boundsA,boundsB,fitsA,numA,appendA,copyA,builtinA,AV.cells,AV.scal,gcH,reach,keysT,keepK,inKs,AV.keys,Ty.isAgg,bs_length,bs_cells,bs_all,bs_nil,bs_zero,v1,v2,v3,v4,w3,k,hx0]
  · have hy1:0 < ys.length:=List.length_pos_iff.2 hy0
    simp [↓s_seq,↓s_reg,↓s_cons,s_nil,s_val,s_rgx,s_sqn,s_ret',s_finr,s_fin1,s_fix,s_clean,o_tmp,o_nil,l_hit,l_miss,ol_nil,ol_cons,ol_some,x_move,x_assign,x_bin,bn_s,x_callB,frame0,binA,intOp,resL,resA,results1,AV.pure,keepT,x_slice,slx,x_makeSlice,msx,newK,genOf,setK,lookK,conts,sliceA,boundsA,boundsB,fitsA,numA,appendA,copyA,builtinA,AV.cells,AV.scal,gcH,reach,keysT,keepK,inKs,AV.keys,Ty.isAgg,bs_length,bs_cells,bs_all,w,n0,n1,n2,bs_zero,m1,m2,w1,w2,k,sl,hy0]
end T3
end
section
open Ab Go TabE T1 T2 T3
namespace T4
def R (m n:Nat):AV:=.ref (1,37,m) 0 n none
def isBit (l:List Int):Prop:=∀ x ∈ l,x=0 ∨ x=1
theorem atI (f c) (l:List Int) (i:Nat) (x:Int) (h:l[i]? = some x):∀ hp,indexAddrA E 38 (.sl f (is l) c) (.int .i64 i) hp=some (.pel [.int .i64 x]):=by
  intro hp
  have hl:i < l.length:=(List.getElem?_eq_some_iff.1 h).1
  have e:(is l)[i]? = some (.int .i64 x):=by
    have:(is l)[i]? = (l[i]?).map (.int .i64):=List.getElem?_map ..
    rw [this,h]; rfl
  unfold indexAddrA
  simp only [E_ty38]
  rw [if_pos ⟨by omega,by rw [is_length]; omega⟩]
  simp only [Int.toNat_natCast,e,E_ty3]
  simp [AV.cells,AV.scal]
end T4
end
section
open Ab Go TabE T1 T2 T3 T4
namespace T5
def bit (l:List Int) (j:Nat):Int:=(l[j]?).getD 0
def val (l:List Int) (p:Nat):Nat → Int
  | 0 => 0
  | k + 1 => 2 * val l p k + bit l (p + k)
theorem bit_01 {l:List Int} (hb:isBit l) (j:Nat):bit l j=0 ∨ bit l j=1:=by
  unfold bit
  cases h:l[j]? with
  | none => exact .inl rfl
  | some x => exact hb x (List.mem_of_getElem? h)
theorem val_lt {l:List Int} (hb:isBit l) (p:Nat):∀ k,0 ≤ val l p k ∧ val l p k < 2 ^ k
  | 0 => by simp [val]
  | k + 1 => by
    have h:=val_lt hb p k
    have b:=bit_01 hb (p + k)
    simp only [val]
    rw [Int.pow_succ]
    omega
theorem val_256 {l:List Int} (hb:isBit l) (p k:Nat) (h:k ≤ 8):0 ≤ val l p k ∧ val l p k < 256:=by
  have a:=val_lt hb p k
  have hk:k=0 ∨ k=1 ∨ k=2 ∨ k=3 ∨ k=4 ∨ k=5 ∨ k=6 ∨ k=7 ∨ k=8:=by omega
  rcases hk with rfl | rfl | rfl | rfl | rfl | rfl | rfl | rfl | rfl <;> (simp only [Int.reducePow] at a; omega)
abbrev O (f:Bool) (l:List Int) (c:Option Nat) (p m n:Nat) (ys:List AV):St:=⟨[(0,.sl f (is l) c),(3,.ref (1,37,m) 0 n none),(4,.int .i64 (p:Int))],[((1,37,m),⟨ys,true,true,false,1,false⟩)]⟩
end T5
end
section
open Ab Go TabE T1 T2 T3 T4 T5
namespace T6
def upto (l:List Int) (j:Nat):List Int:=(List.range j).map fun j => val l (8 * j) 8
def bytesOf (l:List Int):List Int:=upto l ((l.length + 7) / 8)
theorem upto_length (l j):(upto l j).length=j:=by simp [upto]
theorem upto_succ (l j):upto l (j + 1)=upto l j ++ [val l (8 * j) 8]:=by simp [upto,List.range_succ]
end T6
end
section
open Ab Go TabE T1 T2 T3 T4 T5 T6
namespace T7
abbrev S (l:List Int) (n:Int) (i:Int):St:=⟨[(4,.sl false (is l) none),(5,.int .i64 n),(6,.int .i64 i)],[]⟩
end T7
end
section
open Ab Go TabE T1 T2 T3
namespace T9
def and8 (a b:Int):Int:=IntKind.u8.wrap ((BitVec.ofInt 8 a &&& BitVec.ofInt 8 b).toNat:Nat)
theorem i_and (a b:Int):intOp .and .u8 a b=some (.int .u8 (and8 a b)):=rfl
theorem and8_mask (a:Int) (h0:0 ≤ a) (h1:a < 256) (k:Nat) (hk:k ≤ 7):and8 a ((2:Int) ^ k - 1)=a % 2 ^ k:=by
  obtain ⟨n,rfl⟩:=Int.eq_ofNat_of_zero_le h0
  have e2:((2:Int) ^ k - 1)=((2 ^ k - 1:Nat):Int):=by
    have h:k=0 ∨ k=1 ∨ k=2 ∨ k=3 ∨ k=4 ∨ k=5 ∨ k=6 ∨ k=7:=by omega
    rcases h with rfl | rfl | rfl | rfl | rfl | rfl | rfl | rfl <;> rfl
  have lt:2 ^ k - 1 < 256:=by
    have:2 ^ k ≤ 2 ^ 7:=Nat.pow_le_pow_right (by decide) hk
    omega
  unfold and8
  rw [e2,BitVec.ofInt_natCast,BitVec.ofInt_natCast,BitVec.toNat_and,BitVec.toNat_ofNat,BitVec.toNat_ofNat,Nat.mod_eq_of_lt (by omega),Nat.mod_eq_of_lt (by omega),Nat.and_two_pow_sub_one_eq_mod]
  rw [w_u8]
  have l2:n % 2 ^ k ≤ n:=Nat.mod_le ..
  rw [Int.emod_eq_of_lt (by omega) (by omega)]
  push_cast
  rfl
end T9
end
section
open Ab Go TabE T1 T2 T3 T9
namespace T11
theorem unused (n x:Int) (h0:0 ≤ n) (h1:n < 1000000) (h:(8 - n % 8) % 8=x):Con E 5 124 [.int .i64 n] (.int .i64 x):=by
  refine .of (g:=[]) rfl ?_
  rw [aCall_fn rfl (E_fn124) rfl (Nat.le_of_ble_eq_true rfl) rfl rfl,body_124,c124]
  have q1:n.tmod 8=n % 8:=Int.tmod_eq_emod_of_nonneg h0
  have w1:=w64 (n % 8) (by omega) (by omega)
  have w2:=w64 (8 - n % 8) (by omega) (by omega)
  have q2:(8 - n % 8).tmod 8=(8 - n % 8) % 8:=Int.tmod_eq_emod_of_nonneg (by omega)
  have w3:=w64 ((8 - n % 8) % 8) (by omega) (by omega)
  subst h
  simp [↓s_seq,↓s_reg,↓s_cons,s_nil,s_val,s_rgx,s_sqn,s_ret',s_finr,s_fin1,s_fix,s_clean,o_tmp,o_int,l_hit,l_miss,x_move,x_assign,x_bin,bn_s,frame0,binA,intOp,resL,resA,results1,sealA,AV.pure,keepT,gcH,q1,w2,q2]
theorem chk_ok (f c) (x z n:Int) (ys:List Int) (h0:0 ≤ x) (h7:x ≤ 7) (hy:ys ≠ []) (hl:ys.length ≤ 100) (hz:ys[ys.length - 1]? = some z) (hzb:0 ≤ z ∧ z < 256) (hm:z % 2 ^ x.toNat=0) (hn:n=8 * (ys.length:Int) - x) :
    Con E 50 122 [.sl f (bs ys) c,.int .i64 n] (.int .i64 0):=by
  refine .of (g:=[]) (by simp [AV.pureL,AV.pure]) ?_
  rw [aCall_fn rfl (E_fn122) (by simp [AV.pureL,AV.pure]) (Nat.le_of_ble_eq_true rfl) rfl rfl,body_122,c122]
  have hy1:0 < ys.length:=List.length_pos_iff.2 hy
  have n0:¬ n < 0:=by omega
  have n1:¬ 524288 < n:=by omega
  have n2:0 < n:=by omega
  have w1:=w64 (n + 7) (by omega) (by omega)
  have q1:(n + 7).tdiv 8=(n + 7) / 8:=Int.tdiv_eq_ediv_of_nonneg (by omega)
  have q2:(n + 7) / 8=(ys.length:Int):=by omega
  have w2:=w64 (ys.length:Int) (by omega) (by omega)
  have e1:((ys.length:Int) - 1)=((ys.length - 1:Nat):Int):=by omega
  have w3:=w64 ((ys.length:Int) - 1) (by omega) (by omega)
  have ix:=at_ f c ys (ys.length - 1) z hz
  rw [← e1] at ix
  have u:=unused n x (by omega) (by omega) (by omega)
  have hx:x=0 ∨ x=1 ∨ x=2 ∨ x=3 ∨ x=4 ∨ x=5 ∨ x=6 ∨ x=7:=by omega
  rcases hx with rfl | rfl | rfl | rfl | rfl | rfl | rfl | rfl
  · have am:=and8_mask z hzb.1 hzb.2 0 (by omega)
    rw [show (2:Int) ^ 0 - 1=0 from rfl] at am
    have hm2:z % 2 ^ 0=0:=hm
    rw [hm2] at am
    simp [↓s_seq,↓s_reg,↓s_regd,↓s_cond,↓s_block,↓s_cons,↓s_consG,s_nil,s_gt,s_wb,s_val,s_callP,s_ret,s_rgx,s_sqn,s_cdb,s_bkn,s_ret',s_skip',s_finr,s_fin1,s_fix,s_clean,o_tmp,o_int,l_hit,l_miss,ol_nil,ol_cons,ol_some,x_move,x_assign,x_pick,pk_t,pk_f,x_bin,bn_s,x_callF,cl_no,x_callB,frame0,binA,intOp,resL,resA,results1,sealA,AV.pure,AV.pureL,keepT,x_load,ldx,x_indexAddr,iax,newK,genOf,setK,lookK,writeC,readC,conts,TyI.mk1,appendA,copyA,builtinA,AV.cells,AV.scal,gcH,Ty.isAgg,w_u8,IntKind.bits,↓i_and,bs_length,n0,n1,n2,w1,q1,q2,w2,w3,ix,u,am]
  · have am:=and8_mask z hzb.1 hzb.2 1 (by omega)
    rw [show (2:Int) ^ 1 - 1=1 from rfl] at am
    have hm2:z % 2 ^ 1=0:=hm
    rw [hm2] at am
    simp [↓s_seq,↓s_reg,↓s_regd,↓s_cond,↓s_block,↓s_cons,↓s_consG,s_nil,s_gt,s_wb,s_val,s_callP,s_ret,s_rgx,s_sqn,s_cdb,s_bkn,s_ret',s_skip',s_finr,s_fin1,s_fix,s_clean,o_tmp,o_int,l_hit,l_miss,ol_nil,ol_cons,ol_some,x_move,x_assign,x_pick,pk_t,pk_f,x_bin,bn_s,x_callF,cl_no,x_callB,frame0,binA,intOp,resL,resA,results1,sealA,AV.pure,AV.pureL,keepT,x_load,ldx,x_indexAddr,iax,newK,genOf,setK,lookK,writeC,readC,conts,TyI.mk1,appendA,copyA,builtinA,AV.cells,AV.scal,gcH,Ty.isAgg,w_u8,IntKind.bits,↓i_and,bs_length,n0,n1,n2,w1,q1,q2,w2,w3,ix,u,am]
  · have am:=and8_mask z hzb.1 hzb.2 2 (by omega)
    rw [show (2:Int) ^ 2 - 1=3 from rfl] at am
    have hm2:z % 2 ^ 2=0:=hm
    rw [hm2] at am
    simp [↓s_seq,↓s_reg,↓s_regd,↓s_cond,↓s_block,↓s_cons,↓s_consG,s_nil,s_gt,s_wb,s_val,s_callP,s_ret,s_rgx,s_sqn,s_cdb,s_bkn,s_ret',s_skip',s_finr,s_fin1,s_fix,s_clean,o_tmp,o_int,l_hit,l_miss,ol_nil,ol_cons,ol_some,x_move,x_assign,x_pick,pk_t,pk_f,x_bin,bn_s,x_callF,cl_no,x_callB,frame0,binA,intOp,resL,resA,results1,sealA,AV.pure,AV.pureL,keepT,x_load,ldx,x_indexAddr,iax,newK,genOf,setK,lookK,writeC,readC,conts,TyI.mk1,appendA,copyA,builtinA,AV.cells,AV.scal,gcH,Ty.isAgg,w_u8,IntKind.bits,↓i_and,bs_length,n0,n1,n2,w1,q1,q2,w2,w3,ix,u,am]
  · have am:=and8_mask z hzb.1 hzb.2 3 (by omega)
    rw [show (2:Int) ^ 3 - 1=7 from rfl] at am
    have hm2:z % 2 ^ 3=0:=hm
    rw [hm2] at am
    simp [↓s_seq,↓s_reg,↓s_regd,↓s_cond,↓s_block,↓s_cons,↓s_consG,s_nil,s_gt,s_wb,s_val,s_callP,s_ret,s_rgx,s_sqn,s_cdb,s_bkn,s_ret',s_skip',s_finr,s_fin1,s_fix,s_clean,o_tmp,o_int,l_hit,l_miss,ol_nil,ol_cons,ol_some,x_move,x_assign,x_pick,pk_t,pk_f,x_bin,bn_s,x_callF,cl_no,x_callB,frame0,binA,intOp,resL,resA,results1,sealA,AV.pure,AV.pureL,keepT,x_load,ldx,x_indexAddr,iax,newK,genOf,setK,lookK,writeC,readC,conts,TyI.mk1,appendA,copyA,builtinA,AV.cells,AV.scal,gcH,Ty.isAgg,w_u8,IntKind.bits,↓i_and,bs_length,n0,n1,n2,w1,q1,q2,w2,w3,ix,u,am]
  · have am:=and8_mask z hzb.1 hzb.2 4 (by omega)
    rw [show (2:Int) ^ 4 - 1=15 from rfl] at am
    have hm2:z % 2 ^ 4=0:=hm
    rw [hm2] at am
    simp [↓s_seq,↓s_reg,↓s_regd,↓s_cond,↓s_block,↓s_cons,↓s_consG,s_nil,s_gt,s_wb,s_val,s_callP,s_ret,s_rgx,s_sqn,s_cdb,s_bkn,s_ret',s_skip',s_finr,s_fin1,s_fix,s_clean,o_tmp,o_int,l_hit,l_miss,ol_nil,ol_cons,ol_some,x_move,x_assign,x_pick,pk_t,pk_f,x_bin,bn_s,x_callF,cl_no,x_callB,frame0,binA,intOp,resL,resA,results1,sealA,AV.pure,AV.pureL,keepT,x_load,ldx,x_indexAddr,iax,newK,genOf,setK,lookK,writeC,readC,conts,TyI.mk1,appendA,copyA,builtinA,AV.cells,AV.scal,gcH,Ty.isAgg,w_u8,IntKind.bits,↓i_and,bs_length,n0,n1,n2,w1,q1,q2,w2,w3,ix,u,am]
  · have am:=and8_mask z hzb.1 hzb.2 5 (by omega)
    rw [show (2:Int) ^ 5 - 1=31 from rfl] at am
    have hm2:z % 2 ^ 5=0:=hm
    rw [hm2] at am
    simp [↓s_seq,↓s_reg,↓s_regd,↓s_cond,↓s_block,↓s_cons,↓s_consG,s_nil,s_gt,s_wb,s_val,s_callP,s_ret,s_rgx,s_sqn,s_cdb,s_bkn,s_ret',s_skip',s_finr,s_fin1,s_fix,s_clean,o_tmp,o_int,l_hit,l_miss,ol_nil,ol_cons,ol_some,x_move,x_assign,x_pick,pk_t,pk_f,x_bin,bn_s,x_callF,cl_no,x_callB,frame0,binA,intOp,resL,resA,results1,sealA,AV.pure,AV.pureL,keepT,x_load,ldx,x_indexAddr,iax,newK,genOf,setK,lookK,writeC,readC,conts,TyI.mk1,appendA,copyA,builtinA,AV.cells,AV.scal,gcH,Ty.isAgg,w_u8,IntKind.bits,↓i_and,bs_length,n0,n1,n2,w1,q1,q2,w2,w3,ix,u,am]
  · have am:=and8_mask z hzb.1 hzb.2 6 (by omega)
    rw [show (2:Int) ^ 6 - 1=63 from rfl] at am
    have hm2:z % 2 ^ 6=0:=hm
    rw [hm2] at am
    simp [↓s_seq,↓s_reg,↓s_regd,↓s_cond,↓s_block,↓s_cons,↓s_consG,s_nil,s_gt,s_wb,s_val,s_callP,s_ret,s_rgx,s_sqn,s_cdb,s_bkn,s_ret',s_skip',s_finr,s_fin1,s_fix,s_clean,o_tmp,o_int,l_hit,l_miss,ol_nil,ol_cons,ol_some,x_move,x_assign,x_pick,pk_t,pk_f,x_bin,bn_s,x_callF,cl_no,x_callB,frame0,binA,intOp,resL,resA,results1,sealA,AV.pure,AV.pureL,keepT,x_load,ldx,x_indexAddr,iax,newK,genOf,setK,lookK,writeC,readC,conts,TyI.mk1,appendA,copyA,builtinA,AV.cells,AV.scal,gcH,Ty.isAgg,w_u8,IntKind.bits,↓i_and,bs_length,n0,n1,n2,w1,q1,q2,w2,w3,ix,u,am]
  · have am:=and8_mask z hzb.1 hzb.2 7 (by omega)
    rw [show (2:Int) ^ 7 - 1=127 from rfl] at am
    have hm2:z % 2 ^ 7=0:=hm
    rw [hm2] at am
    simp [↓s_seq,↓s_reg,↓s_regd,↓s_cond,↓s_block,↓s_cons,↓s_consG,s_nil,s_gt,s_wb,s_val,s_callP,s_ret,s_rgx,s_sqn,s_cdb,s_bkn,s_ret',s_skip',s_finr,s_fin1,s_fix,s_clean,o_tmp,o_int,l_hit,l_miss,ol_nil,ol_cons,ol_some,x_move,x_assign,x_pick,pk_t,pk_f,x_bin,bn_s,x_callF,cl_no,x_callB,frame0,binA,intOp,resL,resA,results1,sealA,AV.pure,AV.pureL,keepT,x_load,ldx,x_indexAddr,iax,newK,genOf,setK,lookK,writeC,readC,conts,TyI.mk1,appendA,copyA,builtinA,AV.cells,AV.scal,gcH,Ty.isAgg,w_u8,IntKind.bits,↓i_and,bs_length,n0,n1,n2,w1,q1,q2,w2,w3,ix,u,am]
theorem put_ok (f c) (x z n:Int) (ys:List Int) (h0:0 ≤ x) (h7:x ≤ 7) (hy:ys ≠ []) (hl:ys.length ≤ 100) (hz:ys[ys.length - 1]? = some z) (hzb:0 ≤ z ∧ z < 256) (hm:z % 2 ^ x.toNat=0) (hn:n=8 * (ys.length:Int) - x) :
    Con E 100 75 [.sl f (bs ys) c,.int .i64 n] (.tup [.sl false (bs (x :: ys)) (some (ys.length + 1)),.int .i64 0]):=by
  refine .of (g:=[]) (by simp [AV.pureL,AV.pure]) ?_
  rw [aCall_fn rfl (E_fn75) (by simp [AV.pureL,AV.pure]) (Nat.le_of_ble_eq_true rfl) rfl rfl,body_75,c75]
  have hy1:0 < ys.length:=List.length_pos_iff.2 hy
  have k:=chk_ok f c x z n ys h0 h7 hy hl hz hzb hm hn
  have u:=unused n x (by omega) (by omega) (by omega)
  have w:x % 256=x:=Int.emod_eq_of_lt h0 (by omega)
  have j:=fun f c => joined f false (some 1) c [x] ys (by simp) (by omega)
  have e:1 + ys.length=ys.length + 1:=by omega
  have e2:[x] ++ ys=x :: ys:=rfl
  have j':∀ f c,Con E 10 123 [.sl false [.int .u8 x] (some 1),.sl f (bs ys) c] (.sl false (bs (x :: ys)) (some (ys.length + 1))):=fun f c => by
    have:=joined false f (some 1) c [x] ys (by simp) (by omega)
    rw [e2,List.length_singleton,e] at this
    exact this
  simp [↓s_seq,↓s_reg,↓s_cond,↓s_cons,s_nil,s_val,s_calls,s_cax,s_ret,s_rgx,s_sqn,s_cdb,s_ret',s_skip',s_finr,s_fin1,s_fix,s_clean,o_tmp,o_int,o_nil,l_hit,l_miss,ol_nil,ol_cons,ol_some,x_move,x_assign,x_bin,bn_s,x_callF,cl_no,x_conv,cvx,convA,frame0,binA,intOp,resL,resA,results1,sealA,sealLW,AV.pure,AV.pureL,keepT,x_buildSliceF,bsf,newK,genOf,setK,lookK,fillA,writeL,conts,AV.cells,AV.scal,chunk,gcH,reach,keysT,keepK,inKs,AV.keys,Ty.isAgg,w_u8,k,u,w,j']
theorem put_nil (f c):Con E 100 75 [.sl f [] c,.int .i64 0] (.tup [.sl false (bs [0]) (some 1),.int .i64 0]):=by
  refine .of (g:=[]) rfl ?_
  rw [aCall_fn rfl (E_fn75) rfl (Nat.le_of_ble_eq_true rfl) rfl rfl,body_75,c75]
  have k:∀ f c,Con E 50 122 [.sl f [] c,.int .i64 0] (.int .i64 0):=by
    intro f c
    refine .of (g:=[]) rfl ?_
    rw [aCall_fn rfl (E_fn122) rfl (Nat.le_of_ble_eq_true rfl) rfl rfl,body_122,c122]
    simp [↓s_seq,↓s_reg,↓s_regd,↓s_cond,↓s_block,↓s_cons,↓s_consG,s_nil,s_gt,s_gf,s_wb,s_val,s_rgx,s_sqn,s_cdb,s_bkn,s_ret',s_skip',s_finr,s_fin1,s_fix,s_clean,o_tmp,o_int,o_bool,l_hit,l_miss,ol_nil,ol_cons,ol_some,x_move,x_assign,x_pick,pk_f,x_bin,bn_s,x_callF,cl_no,x_callB,frame0,binA,intOp,resL,resA,results1,sealA,AV.pure,keepT,x_load,ldx,x_indexAddr,iax,newK,genOf,setK,lookK,writeC,readC,conts,TyI.mk1,indexAddrA,appendA,copyA,builtinA,AV.cells,AV.scal,gcH,Ty.isAgg,w_i64,w_tdiv]
  have u:=unused 0 0 (by omega) (by omega) (by omega)
  have j':∀ f c,Con E 10 123 [.sl false [.int .u8 0] (some 1),.sl f [] c] (.sl false (bs [0]) (some 1)):=fun f c => joined false f (some 1) c [0] [] (by simp) (by simp)
  simp [↓s_seq,↓s_reg,↓s_cond,↓s_cons,s_nil,s_val,s_calls,s_cax,s_ret,s_rgx,s_sqn,s_cdb,s_ret',s_skip',s_finr,s_fin1,s_fix,s_clean,o_tmp,o_int,o_nil,l_hit,l_miss,ol_nil,ol_cons,ol_some,x_move,x_assign,x_bin,bn_s,x_callF,cl_no,x_conv,cvx,convA,frame0,binA,intOp,resL,resA,results1,sealA,sealLW,AV.pure,AV.pureL,keepT,x_buildSliceF,bsf,newK,genOf,setK,lookK,fillA,writeL,conts,AV.cells,AV.scal,chunk,gcH,reach,keysT,keepK,inKs,AV.keys,Ty.isAgg,w_u8,k,u,j']
end T11
end
section
open Ab T1 T2 T4 T5 T6
namespace T12
theorem val_eight (l:List Int) (p:Nat):val l p 8=128 * bit l p + 64 * bit l (p + 1) + 32 * bit l (p + 2) + 16 * bit l (p + 3) + 8 * bit l (p + 4) + 4 * bit l (p + 5) + 2 * bit l (p + 6) + bit l (p + 7):=by
  simp only [val,Nat.add_zero]
  omega
theorem byte_sum (y:Int) (h0:0 ≤ y) (h1:y < 256):128 * (y / 128 % 2) + 64 * (y / 64 % 2) + 32 * (y / 32 % 2) + 16 * (y / 16 % 2) + 8 * (y / 8 % 2) + 4 * (y / 4 % 2) + 2 * (y / 2 % 2) + y / 1 % 2=y:=by omega
theorem bit_take (l:List Int) (n:Nat) (hz:∀ i,n ≤ i → i < l.length → l[i]? = some 0) (i:Nat):bit (l.take n) i=bit l i:=by
  unfold bit
  by_cases h:i < n
  · rw [List.getElem?_take_of_lt h]
  · rw [List.getElem?_eq_none (by simp; omega)]
    by_cases h2:i < l.length
    · rw [hz i (by omega) h2]; rfl
    · rw [List.getElem?_eq_none (by omega)]
end T12
end
section
open Ab T1 T2 T4 T5 T6 T12
namespace T13
theorem first:∀ (m:Nat) {l:List Int} {n:Nat},n + m=l.length → (∀ i,n ≤ i → i < l.length → l[i]? = some 0) ∨ ∃ j y,l[n + j]? = some y ∧ ¬ y=0 ∧ ∀ i,i < j → l[n + i]? = some 0
  | 0,l,n,e => .inl fun i h1 h2 => by omega
  | m + 1,l,n,e => by
    obtain ⟨y,hy⟩:∃ y,l[n]? = some y:=⟨l[n],by simp⟩
    by_cases h0:y=0
    · subst h0
      rcases first m (l:=l) (n:=n + 1) (by omega) with h | ⟨j,v,h1,h2,h3⟩
      · refine .inl fun i a b => ?_
        by_cases e:i=n
        · rw [e]; exact hy
        · exact h i (by omega) b
      · refine .inr ⟨j + 1,v,by rw [← h1]; congr 1; omega,h2,fun i hi => ?_⟩
        cases i with
        | zero => exact hy
        | succ i => have:=h3 i (by omega); rw [← this]; congr 1; omega
    · exact .inr ⟨0,y,hy,h0,fun i hi => by omega⟩
end T13
end
section
open Ab Go TabE T1 T2 T4
namespace T14
def W:List Int → Int
  | [] => 0
  | x :: r => 2 * W r + x
theorem W_lt:∀ {l:List Int},isBit l → 0 ≤ W l ∧ W l < 2 ^ l.length
  | [],_ => by simp [W]
  | x :: r,h => by
    have a:=W_lt (l:=r) fun z hz => h z (by simp [hz])
    have b:=h x (by simp)
    simp only [W,List.length_cons]
    rw [Int.pow_succ]
    omega
abbrev S (l:List Int) (w i:Int):St:=⟨[(4,.sl false (is l) none),(6,.int .u64 w),(7,.int .i64 i)],[]⟩
end T14
end
section
open Ab Go TabE T1 T2 T3 T4 T14
namespace T17
def orU (a b:Int):Int:=IntKind.u64.wrap ((BitVec.ofInt 64 a ||| BitVec.ofInt 64 b).toNat:Nat)
theorem i_orU (a b:Int):intOp .or .u64 a b=some (.int .u64 (orU a b)):=rfl
theorem orU_pow (w:Int) (k:Nat) (h0:0 ≤ w) (h1:w < 2 ^ k) (hk:k < 64):orU w (2 ^ k)=w + 2 ^ k:=by
  obtain ⟨a,rfl⟩:=Int.eq_ofNat_of_zero_le h0
  have e:((2:Int) ^ k)=((2 ^ k:Nat):Int):=by exact_mod_cast rfl
  have lt:a < 2 ^ k:=by rw [e] at h1; exact_mod_cast h1
  have pk:2 ^ k < 2 ^ 64:=Nat.pow_lt_pow_right (by decide) hk
  have pk2:2 ^ k ≤ 2 ^ 63:=Nat.pow_le_pow_right (by decide) (by omega)
  unfold orU
  rw [e,BitVec.ofInt_natCast,BitVec.ofInt_natCast,BitVec.toNat_or,BitVec.toNat_ofNat,BitVec.toNat_ofNat,Nat.mod_eq_of_lt (by omega),Nat.mod_eq_of_lt pk]
  have o:=Nat.shiftLeft_add_eq_or_of_lt lt 1
  rw [Nat.shiftLeft_eq,Nat.one_mul] at o
  rw [Nat.or_comm,← o,w_u64]
  rw [Int.emod_eq_of_lt (by omega) (by omega)]
  omega
theorem W_take:∀ (l:List Int) (k:Nat) (x:Int),l[k]? = some x → W (l.take (k + 1))=W (l.take k) + x * 2 ^ k
  | [],k,x,h => by simp at h
  | y :: l,0,x,h => by simp at h; subst h; simp [W]
  | y :: l,k + 1,x,h => by
    have:=W_take l k x (by simpa using h)
    simp only [List.take_succ_cons,W,this,Int.pow_succ]
    rw [Int.mul_add,← Int.mul_assoc,Int.mul_comm 2 x,Int.mul_assoc,Int.mul_comm 2 (2 ^ k)]
    omega
abbrev S (ys:List Int) (n w k:Int):St:=⟨[(4,.sl false (bs ys) (some ys.length)),(5,.int .i64 n),(7,.int .u64 w),(58,.int .i64 n),(59,.int .i64 k)],[]⟩
end T17
end
section
open Ab Go TabE T1 T2 T3
namespace T19
def tab:List Int:=[0,1,2,2,3,3,3,3,4,4,4,4,4,4,4,4,5,5,5,5,5,5,5,5,5,5,5,5,5,5,5,5,6,6,6,6,6,6,6,6,6,6,6,6,6,6,6,6,6,6,6,6,6,6,6,6,6,6,6,6,6,6,6,6,7,7,7,7,7,7,7,7,7,7,7,7,7,7,7,7,7,7,7,7,7,7,7,7,7,7,7,7,7,7,7,7,7,7,7,7,7,7,7,7,7,7,7,7,7,7,7,7,7,7,7,7,7,7,7,7,7,7,7,7,7,7,7,7,8,8,8,8,8,8,8,8,8,8,8,8,8,8,8,8,8,8,8,8,8,8,8,8,8,8,8,8,8,8,8,8,8,8,8,8,8,8,8,8,8,8,8,8,8,8,8,8,8,8,8,8,8,8,8,8,8,8,8,8,8,8,8,8,8,8,8,8,8,8,8,8,8,8,8,8,8,8,8,8,8,8,8,8,8,8,8,8,8,8,8,8,8,8,8,8,8,8,8,8,8,8,8,8,8,8,8,8,8,8,8,8,8,8,8,8,8,8,8,8,8,8,8,8,8,8,8,8]
def len8 (y:Int):Int:=if y < 1 then 0 else if y < 2 then 1 else if y < 4 then 2 else if y < 8 then 3 else if y < 16 then 4 else if y < 32 then 5 else if y < 64 then 6 else if y < 128 then 7 else 8
theorem tab_all:(List.range 256).all (fun n => decide (tab[n]? = some (len8 (n:Int))))=true:=by decide +kernel
theorem tab_get (y:Int) (h0:0 ≤ y) (h1:y < 256):indexA E 9 (.str tab) (.int .u8 y)=some (.int .u8 (len8 y)):=by
  obtain ⟨n,rfl⟩:=Int.eq_ofNat_of_zero_le h0
  have h:=of_decide_eq_true (List.all_eq_true.1 tab_all n (List.mem_range.2 (by omega)))
  unfold indexA
  simp only [E_ty9]
  rw [if_pos (by omega),Int.toNat_natCast,h]
  rfl
theorem len8_lt (y:Int):0 ≤ len8 y ∧ len8 y ≤ 8:=by unfold len8; split <;> (try split) <;> (try split) <;> (try split) <;> (try split) <;> (try split) <;> (try split) <;> (try split) <;> omega
end T19
end
section
open Ab Go TabE T1 T2 T3 T14
namespace T21
def andU (a b:Int):Int:=IntKind.u64.wrap ((BitVec.ofInt 64 a &&& BitVec.ofInt 64 b).toNat:Nat)
theorem i_andU (a b:Int):intOp .and .u64 a b=some (.int .u64 (andU a b)):=rfl
def or8 (a b:Int):Int:=IntKind.u8.wrap ((BitVec.ofInt 8 a ||| BitVec.ofInt 8 b).toNat:Nat)
theorem i_or8 (a b:Int):intOp .or .u8 a b=some (.int .u8 (or8 a b)):=rfl
abbrev S (w n:Int) (L:Nat) (ys:List Int) (k:Int):St:=⟨[(0,.int .u64 w),(3,.int .i64 n),(4,.ref (1,11,0) 0 L (some L)),(12,.int .i64 n),(13,.int .i64 k)],[((1,11,0),⟨bs ys,true,true,true,1,false⟩)]⟩
theorem rc (ys:List Int) (j:Nat) (y:Int) (h:ys[j]? = some y):readC [((1,11,0),⟨bs ys,true,true,true,1,false⟩)] (.ptr (1,11,0) j) 1=some [.int .u8 y]:=by
  have hl:j < ys.length:=(List.getElem?_eq_some_iff.1 h).1
  have e:(bs ys)[j]? = some (.int .u8 y):=by rw [bs_get,h]; rfl
  obtain ⟨h1,h2⟩:=List.getElem?_eq_some_iff.1 e
  simp [readC,lookK,bs_length]
  rw [List.drop_eq_getElem_cons h1,h2]
  simp; omega
theorem wc (ys:List Int) (j:Nat) (v:Int) (h:j < ys.length):writeC [((1,11,0),⟨bs ys,true,true,true,1,false⟩)] (1,11,0) j [.int .u8 v]=some [((1,11,0),⟨bs (ys.set j v),true,true,true,1,false⟩)]:=by
  unfold writeC
  simp only [lookK,if_true]
  rw [if_pos ⟨trivial,trivial,by rw [bs_length]; simp; omega,by simp [AV.scal]⟩]
  have e:writeL (bs ys) j [.int .u8 v]=bs (ys.set j v):=by
    unfold writeL bs
    rw [List.map_set,List.set_eq_take_append_cons_drop]
    simp [h]
  rw [e]; simp [setK]
end T21
end
section
open Ab Go T1 T2 T4 T5 T6 T14 T21
namespace T22
theorem W_bit:∀ (l:List Int),isBit l → ∀ (k:Nat) (x:Int),l[k]? = some x → W l / 2 ^ k % 2=x
  | [],_,k,x,h => by simp at h
  | y :: r,hb,0,x,h => by
    have b:=hb y (by simp)
    simp at h; subst h
    simp only [W,Int.pow_zero,Int.ediv_one]
    omega
  | y :: r,hb,k + 1,x,h => by
    have b:=hb y (by simp)
    have ih:=W_bit r (fun z hz => hb z (by simp [hz])) k x (by simpa using h)
    have e:(2 * W r + y) / 2=W r:=by omega
    simp only [W]
    rw [Int.pow_succ,Int.mul_comm ((2:Int) ^ k) 2,← Int.ediv_ediv_of_nonneg (by decide),e]
    exact ih
theorem and1 (v:Int) (h0:0 ≤ v) (h1:v < 18446744073709551616):andU v 1=v % 2:=by
  obtain ⟨n,rfl⟩:=Int.eq_ofNat_of_zero_le h0
  unfold andU
  have e1:(1:Int)=((1:Nat):Int):=rfl
  rw [e1,BitVec.ofInt_natCast,BitVec.ofInt_natCast,BitVec.toNat_and,BitVec.toNat_ofNat,BitVec.toNat_ofNat,Nat.mod_eq_of_lt (by omega),Nat.mod_eq_of_lt (by omega),Nat.and_one_is_mod,w_u64]
  omega
theorem bit_upd (l:List Int) (k i:Nat) (x:Int) (h:l[k]? = some x):bit (l.take (k + 1)) i=if i=k then x else bit (l.take k) i:=by
  unfold bit
  rw [List.take_add_one,h]
  have lk:(l.take k).length=k:=by rw [List.length_take]; have:=(List.getElem?_eq_some_iff.1 h).1; omega
  by_cases e:i=k
  · subst e
    rw [List.getElem?_append_right (by omega),lk]; simp
  · rw [if_neg e]
    by_cases e2:i < k
    · rw [List.getElem?_append_left (by omega)]
    · rw [List.getElem?_eq_none (by simp; omega),List.getElem?_eq_none (by omega)]
theorem bit_out (l:List Int) (k i:Nat) (h:k ≤ i):bit (l.take k) i=0:=by
  unfold bit
  rw [List.getElem?_eq_none (by simp; omega)]; rfl
theorem row_zero (l:List Int) (L k:Nat) (h:l[k]? = some 0):upto (l.take (k + 1)) L=upto (l.take k) L:=by
  unfold upto
  refine List.map_congr_left fun j _ => ?_
  rw [T12.val_eight,T12.val_eight]
  have g:∀ i,bit (l.take (k + 1)) i=bit (l.take k) i:=fun i => by
    rw [bit_upd l k i 0 h]
    split
    · rename_i e; subst e; rw [bit_out l i i (by omega)]
    · rfl
  simp only [g]
theorem val_one (l:List Int) (j t:Nat) (ht:t < 8) (h:l[8 * j + t]? = some 1):val (l.take (8 * j + t + 1)) (8 * j) 8=val (l.take (8 * j + t)) (8 * j) 8 + 128 / 2 ^ t:=by
  rw [T12.val_eight,T12.val_eight]
  have g:=fun i => bit_upd l (8 * j + t) i 1 h
  have z:=bit_out l (8 * j + t) (8 * j + t) (by omega)
  have ht2:t=0 ∨ t=1 ∨ t=2 ∨ t=3 ∨ t=4 ∨ t=5 ∨ t=6 ∨ t=7:=by omega
  rcases ht2 with rfl | rfl | rfl | rfl | rfl | rfl | rfl | rfl <;> (try simp only [Nat.add_zero] at g z ⊢) <;> simp [g,z] <;> omega
theorem row_one (l:List Int) (L j t:Nat) (ht:t < 8) (hj:j < L) (h:l[8 * j + t]? = some 1):upto (l.take (8 * j + t + 1)) L=(upto (l.take (8 * j + t)) L).set j (val (l.take (8 * j + t)) (8 * j) 8 + 128 / 2 ^ t):=by
  apply List.ext_getElem?
  intro i
  rw [List.getElem?_set]
  unfold upto
  by_cases hi:i < L
  · by_cases e:j=i
    · subst e
      simp [hi,val_one l j t ht h]
    · rw [if_neg e]
      simp only [List.getElem?_map,List.getElem?_range hi,Option.map_some,Option.some.injEq]
      rw [T12.val_eight,T12.val_eight]
      have g:∀ s,s < 8 → bit (l.take (8 * j + t + 1)) (8 * i + s)=bit (l.take (8 * j + t)) (8 * i + s):=fun s hs => by
        rw [bit_upd l _ _ 1 h,if_neg (by omega)]
      have g0:bit (l.take (8 * j + t + 1)) (8 * i)=bit (l.take (8 * j + t)) (8 * i):=g 0 (by omega)
      rw [g0,g 1 (by omega),g 2 (by omega),g 3 (by omega),g 4 (by omega),g 5 (by omega),g 6 (by omega),g 7 (by omega)]
  · rw [List.getElem?_eq_none (by simp; omega)]
    split
    · rename_i e; subst e; omega
    · rw [List.getElem?_eq_none (by simp; omega)]
end T22
end
section
open Ab Go TabE T1 T2 T3 T4 T5 T6 T11 T14 T21 T22
namespace T23
theorem or8_pow (y:Int) (m:Nat) (h0:0 ≤ y) (h1:y < 256) (hm:m ≤ 7) (hd:y % 2 ^ (m + 1)=0):or8 y (2 ^ m)=y + 2 ^ m:=by
  obtain ⟨a,rfl⟩:=Int.eq_ofNat_of_zero_le h0
  have e:((2:Int) ^ m)=((2 ^ m:Nat):Int):=by exact_mod_cast rfl
  have e2:((2:Int) ^ (m + 1))=((2 ^ (m + 1):Nat):Int):=by exact_mod_cast rfl
  rw [e2] at hd
  have hd':a % 2 ^ (m + 1)=0:=by exact_mod_cast hd
  have pm:2 ^ m < 2 ^ (m + 1):=Nat.pow_lt_pow_right (by decide) (by omega)
  have p7:2 ^ m ≤ 2 ^ 7:=Nat.pow_le_pow_right (by decide) hm
  obtain ⟨q,hq⟩:∃ q,a=q * 2 ^ (m + 1):=⟨a / 2 ^ (m + 1),by have:=Nat.div_add_mod a (2 ^ (m + 1)); rw [hd',Nat.add_zero,Nat.mul_comm] at this; exact this.symm⟩
  have o:=Nat.shiftLeft_add_eq_or_of_lt pm q
  rw [Nat.shiftLeft_eq,← hq] at o
  have al:a < 256:=by omega
  have sum:a + 2 ^ m < 256:=by
    rw [o]; exact Nat.or_lt_two_pow (n:=8) al (by omega)
  unfold or8
  rw [e,BitVec.ofInt_natCast,BitVec.ofInt_natCast,BitVec.toNat_or,BitVec.toNat_ofNat,BitVec.toNat_ofNat,Nat.mod_eq_of_lt al,Nat.mod_eq_of_lt (by omega),← o,w_u8]
  omega
theorem low_zero (l:List Int) (hb:isBit l) (j t:Nat) (ht:t < 8):val (l.take (8 * j + t)) (8 * j) 8 % 2 ^ (7 - t + 1)=0:=by
  rw [T12.val_eight]
  have z:=fun i h => bit_out l (8 * j + t) i h
  have ht2:t=0 ∨ t=1 ∨ t=2 ∨ t=3 ∨ t=4 ∨ t=5 ∨ t=6 ∨ t=7:=by omega
  rcases ht2 with rfl | rfl | rfl | rfl | rfl | rfl | rfl | rfl
  · have a0:=z (8 * j) (by omega)
    rw [a0,z _ (by omega),z _ (by omega),z _ (by omega),z _ (by omega),z _ (by omega),z _ (by omega),z _ (by omega)]; rfl
  · rw [z (8 * j + 1) (by omega),z (8 * j + 2) (by omega),z (8 * j + 3) (by omega),z (8 * j + 4) (by omega),z (8 * j + 5) (by omega),z (8 * j + 6) (by omega),z (8 * j + 7) (by omega)]; simp only [Nat.reduceSub,Nat.reduceAdd,Int.reducePow]; omega
  · rw [z (8 * j + 2) (by omega),z (8 * j + 3) (by omega),z (8 * j + 4) (by omega),z (8 * j + 5) (by omega),z (8 * j + 6) (by omega),z (8 * j + 7) (by omega)]; simp only [Nat.reduceSub,Nat.reduceAdd,Int.reducePow]; omega
  · rw [z (8 * j + 3) (by omega),z (8 * j + 4) (by omega),z (8 * j + 5) (by omega),z (8 * j + 6) (by omega),z (8 * j + 7) (by omega)]; simp only [Nat.reduceSub,Nat.reduceAdd,Int.reducePow]; omega
  · rw [z (8 * j + 4) (by omega),z (8 * j + 5) (by omega),z (8 * j + 6) (by omega),z (8 * j + 7) (by omega)]; simp only [Nat.reduceSub,Nat.reduceAdd,Int.reducePow]; omega
  · rw [z (8 * j + 5) (by omega),z (8 * j + 6) (by omega),z (8 * j + 7) (by omega)]; simp only [Nat.reduceSub,Nat.reduceAdd,Int.reducePow]; omega
  · rw [z (8 * j + 6) (by omega),z (8 * j + 7) (by omega)]; simp only [Nat.reduceSub,Nat.reduceAdd,Int.reducePow]; omega
  · rw [z (8 * j + 7) (by omega)]; simp only [Nat.reduceSub,Nat.reduceAdd,Int.reducePow]; omega
theorem or_bit (l:List Int) (hb:isBit l) (j t:Nat) (ht:t < 8):or8 (val (l.take (8 * j + t)) (8 * j) 8) (128 / 2 ^ t)=val (l.take (8 * j + t)) (8 * j) 8 + 128 / 2 ^ t:=by
  have v:=val_256 (l:=l.take (8 * j + t)) (fun z hz => hb z (List.mem_of_mem_take hz)) (8 * j) 8 (by omega)
  have e:(128:Int) / 2 ^ t=2 ^ (7 - t):=by
    have ht2:t=0 ∨ t=1 ∨ t=2 ∨ t=3 ∨ t=4 ∨ t=5 ∨ t=6 ∨ t=7:=by omega
    rcases ht2 with rfl | rfl | rfl | rfl | rfl | rfl | rfl | rfl <;> rfl
  rw [e]
  exact or8_pow _ (7 - t) v.1 v.2 (by omega) (low_zero l hb j t ht)
theorem W_ge (l:List Int) (hb:isBit l) (h0:0 < l.length) (hz:l[l.length - 1]? = some 1):2 ^ (l.length - 1) ≤ W l:=by
  have h:=T17.W_take l (l.length - 1) 1 hz
  rw [show l.length - 1 + 1=l.length by omega,List.take_length,Int.one_mul] at h
  have a:=W_lt (l:=l.take (l.length - 1)) fun z hz => hb z (List.mem_of_mem_take hz)
  omega
theorem upto_nil (L:Nat):upto [] L=List.replicate L 0:=by
  unfold upto
  apply List.ext_getElem?
  intro i
  by_cases h:i < L
  · simp [h,T12.val_eight,bit]
  · rw [List.getElem?_eq_none (by simp; omega),List.getElem?_eq_none (by simp; omega)]
end T23
end
