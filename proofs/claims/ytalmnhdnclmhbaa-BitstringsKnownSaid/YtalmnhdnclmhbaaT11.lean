/- Own work, no conditions. -/
import Derived.Test.YtalmnhdnclmhbaaTabB
import Derived.Test.YtalmnhdnclmhbaaB30
import Derived.Test.YtalmnhdnclmhbaaB18
set_option maxRecDepth 20000
set_option linter.unusedSimpArgs false
set_option linter.unusedVariables false
set_option maxHeartbeats 16000000
section
open Ab Go TabB
attribute [local simp ↓] s_seq s_reg s_regd s_cond s_block s_cons s_consG
attribute [local simp] s_nil s_loop s_round s_lpn s_lpe s_lpr firstReg s_gt s_gf s_wb s_wu s_val s_valN s_skip s_calls s_callP s_cax lookR flatR pureKs s_ret s_rgx s_sqn s_sqr s_sqe s_cdb s_bkn s_bkr s_bke s_exit s_ret' s_skip' s_finr s_finn s_fin1 s_fix s_clean s_gc0 o_tmp o_int o_bool o_nil o_str o_fn o_nil' l_hit l_miss l_nil ol_nil ol_cons ol_some x_move x_assign x_pick pk_t pk_f x_bin bn_s x_un x_extract x_callF cl_no x_callB x_callBF frzV x_conv cvx convA frame0 binA intOp resL resA results1 sealA sealLW AV.pure AV.pureL keepT x_alloc x_box bxx x_build bdx x_buildSlice bsx x_buildSliceF bsf x_load ldx x_store stx x_slice slx x_fieldAddr x_field x_index ixx x_indexAddr iax x_makeSlice msx x_nilCheck newK genOf setK lookK fillA writeL writeC readC conts TyI.mk1 sliceA boundsA boundsB fitsA numA indexAddrA fieldAddrA partA fieldA indexA appendA copyA builtinA AV.cells AV.scal chunk gcH reach keysT keepK inKs AV.keys AV.keysL Ty.isAgg eq1 eqL convA.go ltI w_u8 w_u32 w_u64 w_i64 w_fdiv w_tdiv w_tmod IntKind.bits unA
section
open Ab Go TabB
namespace T1
theorem w64 (n:Int) (h0:0 ≤ n) (h1:n < 4294967296):IntKind.i64.wrap n=n:=Go.IntWalk.i64_in _ (by omega)
theorem kL_app:∀ (a b:List AV),AV.keysL (a ++ b)=AV.keysL a ++ AV.keysL b
  | [],b => rfl
  | x :: a,b => by simp [AV.keysL,kL_app a b]
theorem loopR {f:St → Option (AExit × St)} {cl:St → St} {k:Nat} {s0:St} {r:AExit × St} (S:Nat → St) (N:Nat) (h0:s0=S 0) (step:∀ i,i < N → f (cl (S i))=some (.normal,S (i + 1))) (last:f (cl (S N))=some r) (hr:r.1 ≠ .normal) (hk:N < k):aLoop f cl k s0=some r:=by
  subst h0
  have gen:∀ m i k,i + m=N → m < k → aLoop f cl k (S i)=some r:=by
    intro m
    induction m with
    | zero =>
      intro i k hi hk
      obtain rfl:i=N:=by omega
      obtain ⟨k,rfl⟩:∃ j,k=j + 1:=⟨k - 1,by omega⟩
      simp only [aLoop,last]
      obtain ⟨e,s⟩:=r
      cases e <;> first | rfl | exact absurd rfl hr
    | succ m ih =>
      intro i k hi hk
      obtain ⟨k,rfl⟩:∃ j,k=j + 1:=⟨k - 1,by omega⟩
      simp only [aLoop,step i (by omega)]
      exact ih (i + 1) k (by omega) (by omega)
  exact gen N 0 k (by omega) hk
def bodyO:Code:=match c45 with
  | .seq _ (.seq _ (.seq (.seq _ (.block _ (.loop b))) _)) => b
  | _ => .skip
def bodyI:Code:=match bodyO with
  | .seq _ (.seq (.block _ (.seq _ (.block _ (.loop b)))) _) => b
  | _ => .skip
abbrev S (f:Bool) (XS:List AV) (c:Option Nat) (i k:Int) (m n:Nat) (ys:List AV):St:=⟨[(0,.sl f XS c),(3,.ref (1,26,m) 0 n none),(4,.int .i64 i),(5,.int .i64 k)],[((1,26,m),⟨ys,true,true,false,1,false⟩)]⟩
theorem round (call sc) (k1:Nat) (XS:List AV) (f:Bool) (c:Option Nat) (i k x:Int) (m n:Nat) (ys:List AV) (hX:AV.pureL XS=true) (hys:ys.length=n) (hs:ys.all AV.scal=true) (hp:AV.pureL ys=true) (hky:AV.keysL ys=[]) (hkX:AV.keysL XS=[]) (hn:n < 1000000) (hk:0 < k) (hk2:k < 256) (hx:0 ≤ x ∧ x < 256)
    (ix:∀ h,indexAddrA E 22 (.sl f XS c) (.int .i64 i) h=some (.pel [.int .u8 x])) :
    aCode E call sc k1 1 fn45 bodyI (cleanS 1 ((firstReg bodyI).bind fn45.head) ⟨[(0,.sl f XS c),(3,.ref (1,26,m) 0 n none),(4,.int .i64 i),(5,.int .i64 k)],[((1,26,m),⟨ys,true,true,false,1,false⟩)]⟩) =
      some (.normal,⟨[(0,.sl f XS c),(3,.ref (1,26,m + 1) 0 (n + 1) none),(4,.int .i64 i),(5,.int .i64 (k / 2))],[((1,26,m + 1),⟨ys ++ [.int .i64 (x / k % 2)],true,true,false,1,false⟩)]⟩):=by
  have e0:¬ k=0:=by omega
  have w1:=w64 x hx.1 (by omega)
  have q1:x.tdiv k=x / k:=Int.tdiv_eq_ediv_of_nonneg hx.1
  have b1:0 ≤ x / k:=Int.ediv_nonneg hx.1 (by omega)
  have b2:x / k ≤ x:=Int.ediv_le_self k hx.1
  have w2:=w64 (x / k) b1 (by omega)
  have q2:(x / k).tmod 2=x / k % 2:=Int.tmod_eq_emod_of_nonneg b1
  have w3:=w64 (x / k % 2) (by omega) (by omega)
  have q3:k.tdiv 2=k / 2:=Int.tdiv_eq_ediv_of_nonneg (by omega)
  have w4:=w64 (k / 2) (by omega) (by omega)
  have kk:AV.keysL (ys ++ [.int .i64 (x / k % 2)])=[]:=by rw [kL_app,hky]; rfl
  have cp:(n + 1) * 8 ≤ 70368744177664:=by omega
  simp [bodyI,bodyO,c45,kk,cp,hX,hys,hs,hp,hk,hky,hkX,-indexAddrA,ix,e0,w1,q1,w2,q2,w3,q3,w4]
theorem stop (call sc) (k1:Nat) (XS:List AV) (f:Bool) (c:Option Nat) (i:Int) (m n:Nat) (ys:List AV) (hX:AV.pureL XS=true) (hky:AV.keysL ys=[]) (hkX:AV.keysL XS=[]) :
    aCode E call sc k1 1 fn45 bodyI (cleanS 1 ((firstReg bodyI).bind fn45.head) (S f XS c i 0 m n ys))=some (.exit 2,⟨[(0,.sl f XS c),(3,.ref (1,26,m) 0 n none),(4,.int .i64 i),(5,.int .i64 0),(13,.bool false)],[((1,26,m),⟨ys,true,true,false,1,false⟩)]⟩):=by
  simp [bodyI,bodyO,c45,hX,hky,hkX]
theorem round0 (call sc) (k1:Nat) (XS:List AV) (f:Bool) (c:Option Nat) (i k x:Int) (hX:AV.pureL XS=true) (hkX:AV.keysL XS=[]) (hk:0 < k) (hk2:k < 256) (hx:0 ≤ x ∧ x < 256)
    (ix:∀ h,indexAddrA E 22 (.sl f XS c) (.int .i64 i) h=some (.pel [.int .u8 x])) :
    aCode E call sc k1 1 fn45 bodyI (cleanS 1 ((firstReg bodyI).bind fn45.head) ⟨[(0,.sl f XS c),(3,.sl true [] (some 0)),(4,.int .i64 i),(5,.int .i64 k)],[]⟩) =
      some (.normal,S f XS c i (k / 2) 0 1 [.int .i64 (x / k % 2)]):=by
  have e0:¬ k=0:=by omega
  have w1:=w64 x hx.1 (by omega)
  have q1:x.tdiv k=x / k:=Int.tdiv_eq_ediv_of_nonneg hx.1
  have b1:0 ≤ x / k:=Int.ediv_nonneg hx.1 (by omega)
  have b2:x / k ≤ x:=Int.ediv_le_self k hx.1
  have w2:=w64 (x / k) b1 (by omega)
  have q2:(x / k).tmod 2=x / k % 2:=Int.tmod_eq_emod_of_nonneg b1
  have w3:=w64 (x / k % 2) (by omega) (by omega)
  have q3:k.tdiv 2=k / 2:=Int.tdiv_eq_ediv_of_nonneg (by omega)
  have w4:=w64 (k / 2) (by omega) (by omega)
  simp [bodyI,bodyO,c45,hX,hk,hkX,-indexAddrA,ix,e0,w1,q1,w2,q2,w3,q3,w4]
def is (l:List Int):List AV:=l.map (.int .i64)
theorem is_app (a b):is (a ++ b)=is a ++ is b:=List.map_append ..
theorem is_length (l):(is l).length=l.length:=List.length_map ..
theorem is_pure:∀ l,AV.pureL (is l)=true
  | [] => rfl
  | x :: l => by have:=is_pure l; simpa [is,AV.pureL,AV.pure] using this
theorem is_keys:∀ l,AV.keysL (is l)=[]
  | [] => rfl
  | x :: l => by have:=is_keys l; simpa [is,AV.keysL,AV.keys] using this
theorem is_scal:∀ l,(is l).all AV.scal=true
  | [] => rfl
  | x :: l => by have:=is_scal l; simp [is,AV.scal]
def b8 (x:Int):List Int:=[x / 128 % 2,x / 64 % 2,x / 32 % 2,x / 16 % 2,x / 8 % 2,x / 4 % 2,x / 2 % 2,x / 1 % 2]
theorem aLoop_succ {f:St → Option (AExit × St)} {cl:St → St} {k:Nat} {s s':St} (h:f (cl s)=some (.normal,s')):aLoop f cl (k + 1) s=aLoop f cl k s':=by simp only [aLoop,h]
theorem aLoop_end {f:St → Option (AExit × St)} {cl:St → St} {k:Nat} {s s':St} {e} (h:f (cl s)=some (e,s')) (he:e ≠ .normal):aLoop f cl (k + 1) s=some (e,s'):=by
  simp only [aLoop,h]
  cases e <;> first | rfl | exact absurd rfl he
theorem roundI (call sc) (k1:Nat) (XS:List AV) (f:Bool) (c:Option Nat) (i k k' x:Int) (m:Nat) (l:List Int) (hX:AV.pureL XS=true) (hkX:AV.keysL XS=[]) (hn:l.length < 1000000) (hk:0 < k) (hk2:k < 256) (hx:0 ≤ x ∧ x < 256) (e:k / 2=k')
    (ix:∀ h,indexAddrA E 22 (.sl f XS c) (.int .i64 i) h=some (.pel [.int .u8 x])) :
    aCode E call sc k1 1 fn45 bodyI (cleanS 1 ((firstReg bodyI).bind fn45.head) (S f XS c i k m l.length (is l)))=some (.normal,S f XS c i k' (m + 1) (l ++ [x / k % 2]).length (is (l ++ [x / k % 2]))):=by
  subst e
  rw [is_app,List.length_append]
  exact round call sc k1 XS f c i k x m l.length (is l) hX (is_length l) (is_scal l) (is_pure l) (is_keys l) hkX hn hk hk2 hx ix
theorem eight (call sc) (k1:Nat) (XS:List AV) (f:Bool) (c:Option Nat) (i x:Int) (m:Nat) (l:List Int) (q:Nat) (hX:AV.pureL XS=true) (hkX:AV.keysL XS=[]) (hn:l.length < 900000) (hx:0 ≤ x ∧ x < 256)
    (ix:∀ h,indexAddrA E 22 (.sl f XS c) (.int .i64 i) h=some (.pel [.int .u8 x])) :
    aLoop (aCode E call sc k1 1 fn45 bodyI) (cleanS 1 ((firstReg bodyI).bind fn45.head)) (q + 9) (S f XS c i 128 m l.length (is l))=some (.exit 2,⟨[(0,.sl f XS c),(3,.ref (1,26,m + 8) 0 (l ++ b8 x).length none),(4,.int .i64 i),(5,.int .i64 0),(13,.bool false)],[((1,26,m + 8),⟨is (l ++ b8 x),true,true,false,1,false⟩)]⟩):=by
  rw [show q + 9=(q + 8) + 1 from rfl,aLoop_succ (roundI call sc k1 XS f c i 128 64 x _ _ hX hkX (by first | omega | (simp; omega)) (by decide) (by decide) hx rfl ix)]
  rw [show q + 8=(q + 7) + 1 from rfl,aLoop_succ (roundI call sc k1 XS f c i 64 32 x _ _ hX hkX (by first | omega | (simp; omega)) (by decide) (by decide) hx rfl ix)]
  rw [show q + 7=(q + 6) + 1 from rfl,aLoop_succ (roundI call sc k1 XS f c i 32 16 x _ _ hX hkX (by first | omega | (simp; omega)) (by decide) (by decide) hx rfl ix)]
  rw [show q + 6=(q + 5) + 1 from rfl,aLoop_succ (roundI call sc k1 XS f c i 16 8 x _ _ hX hkX (by first | omega | (simp; omega)) (by decide) (by decide) hx rfl ix)]
  rw [show q + 5=(q + 4) + 1 from rfl,aLoop_succ (roundI call sc k1 XS f c i 8 4 x _ _ hX hkX (by first | omega | (simp; omega)) (by decide) (by decide) hx rfl ix)]
  rw [show q + 4=(q + 3) + 1 from rfl,aLoop_succ (roundI call sc k1 XS f c i 4 2 x _ _ hX hkX (by first | omega | (simp; omega)) (by decide) (by decide) hx rfl ix)]
  rw [show q + 3=(q + 2) + 1 from rfl,aLoop_succ (roundI call sc k1 XS f c i 2 1 x _ _ hX hkX (by first | omega | (simp; omega)) (by decide) (by decide) hx rfl ix)]
  rw [show q + 2=(q + 1) + 1 from rfl,aLoop_succ (roundI call sc k1 XS f c i 1 0 x _ _ hX hkX (by first | omega | (simp; omega)) (by decide) (by decide) hx rfl ix)]
  rw [aLoop_end (stop call sc k1 XS f c i _ _ _ hX (is_keys _) hkX) (by simp)]
  simp [b8]
theorem eight0 (call sc) (k1:Nat) (XS:List AV) (f:Bool) (c:Option Nat) (i x:Int) (q:Nat) (hX:AV.pureL XS=true) (hkX:AV.keysL XS=[]) (hx:0 ≤ x ∧ x < 256)
    (ix:∀ h,indexAddrA E 22 (.sl f XS c) (.int .i64 i) h=some (.pel [.int .u8 x])) :
    aLoop (aCode E call sc k1 1 fn45 bodyI) (cleanS 1 ((firstReg bodyI).bind fn45.head)) (q + 9) ⟨[(0,.sl f XS c),(3,.sl true [] (some 0)),(4,.int .i64 i),(5,.int .i64 128)],[]⟩=some (.exit 2,⟨[(0,.sl f XS c),(3,.ref (1,26,7) 0 (b8 x).length none),(4,.int .i64 i),(5,.int .i64 0),(13,.bool false)],[((1,26,7),⟨is (b8 x),true,true,false,1,false⟩)]⟩):=by
  have r0:aCode E call sc k1 1 fn45 bodyI (cleanS 1 ((firstReg bodyI).bind fn45.head) ⟨[(0,.sl f XS c),(3,.sl true [] (some 0)),(4,.int .i64 i),(5,.int .i64 128)],[]⟩)=some (.normal,S f XS c i 64 0 [x / 128 % 2].length (is [x / 128 % 2])):=round0 call sc k1 XS f c i 128 x hX hkX (by decide) (by decide) hx ix
  rw [show q + 9=(q + 8) + 1 from rfl,aLoop_succ r0]
  rw [show q + 8=(q + 7) + 1 from rfl,aLoop_succ (roundI call sc k1 XS f c i 64 32 x _ _ hX hkX (by simp) (by decide) (by decide) hx rfl ix)]
  rw [show q + 7=(q + 6) + 1 from rfl,aLoop_succ (roundI call sc k1 XS f c i 32 16 x _ _ hX hkX (by simp) (by decide) (by decide) hx rfl ix)]
  rw [show q + 6=(q + 5) + 1 from rfl,aLoop_succ (roundI call sc k1 XS f c i 16 8 x _ _ hX hkX (by simp) (by decide) (by decide) hx rfl ix)]
  rw [show q + 5=(q + 4) + 1 from rfl,aLoop_succ (roundI call sc k1 XS f c i 8 4 x _ _ hX hkX (by simp) (by decide) (by decide) hx rfl ix)]
  rw [show q + 4=(q + 3) + 1 from rfl,aLoop_succ (roundI call sc k1 XS f c i 4 2 x _ _ hX hkX (by simp) (by decide) (by decide) hx rfl ix)]
  rw [show q + 3=(q + 2) + 1 from rfl,aLoop_succ (roundI call sc k1 XS f c i 2 1 x _ _ hX hkX (by simp) (by decide) (by decide) hx rfl ix)]
  rw [show q + 2=(q + 1) + 1 from rfl,aLoop_succ (roundI call sc k1 XS f c i 1 0 x _ _ hX hkX (by simp) (by decide) (by decide) hx rfl ix)]
  rw [aLoop_end (stop call sc k1 XS f c i _ _ _ hX (is_keys _) hkX) (by simp)]
  simp [b8]
end T1
end
end
section
open Ab Go TabB T1
namespace T2
abbrev O (f:Bool) (XS:List AV) (c:Option Nat) (i:Int) (m n:Nat) (ys:List AV):St:=⟨[(0,.sl f XS c),(3,.ref (1,26,m) 0 n none),(4,.int .i64 i)],[((1,26,m),⟨ys,true,true,false,1,false⟩)]⟩
theorem outer (call sc) (q:Nat) (XS:List AV) (f:Bool) (c:Option Nat) (i x:Int) (m:Nat) (l:List Int) (hX:AV.pureL XS=true) (hkX:AV.keysL XS=[]) (hn:l.length < 900000) (h0:0 ≤ i) (hi:i < (XS.length:Int)) (hm:i < 4000000) (hx:0 ≤ x ∧ x < 256)
    (ix:∀ h,indexAddrA E 22 (.sl f XS c) (.int .i64 i) h=some (.pel [.int .u8 x])) :
    aCode E call sc (q + 9) 1 fn45 bodyO (cleanS 1 ((firstReg bodyO).bind fn45.head) (O f XS c i m l.length (is l)))=some (.normal,O f XS c (i + 1) (m + 8) (l ++ b8 x).length (is (l ++ b8 x))):=by
  have e8:=eight call sc (q + 9) XS f c i x m l q hX hkX hn hx ix
  simp [bodyI,bodyO,c45,firstReg] at e8
  have w:=w64 (i + 1) (by omega) (by omega)
  have kl:=is_keys l
  have k2:=is_keys (l ++ b8 x)
  have k3:=is_keys (b8 x)
  simp [bodyO,c45,↓s_seq,↓s_reg,↓s_cond,↓s_block,↓s_cons,s_nil,s_loop,firstReg,s_val,s_rgx,s_sqn,s_cdb,s_bkn,s_bke,s_skip',s_clean,o_tmp,o_int,l_hit,l_miss,ol_nil,ol_cons,ol_some,x_move,x_assign,x_bin,bn_s,x_callB,binA,intOp,keepT,newK,genOf,setK,lookK,writeL,writeC,conts,appendA,copyA,builtinA,AV.cells,AV.scal,gcH,reach,keysT,keepK,inKs,AV.keys,Ty.isAgg,hi,e8,w,kl,k2]
theorem outer0 (call sc) (q:Nat) (XS:List AV) (f:Bool) (c:Option Nat) (x:Int) (hX:AV.pureL XS=true) (hkX:AV.keysL XS=[]) (hi:(0:Int) < (XS.length:Int)) (hx:0 ≤ x ∧ x < 256)
    (ix:∀ h,indexAddrA E 22 (.sl f XS c) (.int .i64 0) h=some (.pel [.int .u8 x])) :
    aCode E call sc (q + 9) 1 fn45 bodyO (cleanS 1 ((firstReg bodyO).bind fn45.head) ⟨[(0,.sl f XS c),(3,.sl true [] (some 0)),(4,.int .i64 0)],[]⟩)=some (.normal,O f XS c 1 7 (b8 x).length (is (b8 x))):=by
  have e8:=eight0 call sc (q + 9) XS f c 0 x q hX hkX hx ix
  simp [bodyI,bodyO,c45,firstReg] at e8
  have k3:=is_keys (b8 x)
  have hi':XS ≠ []:=by intro e; subst e; simp at hi
  have hi2:0 < XS.length:=by omega
  simp [bodyO,c45,↓s_seq,↓s_reg,↓s_cond,↓s_block,↓s_cons,s_nil,s_loop,firstReg,s_val,s_rgx,s_sqn,s_cdb,s_bkn,s_bke,s_skip',s_clean,o_tmp,o_int,l_hit,l_miss,ol_nil,ol_cons,ol_some,x_move,x_assign,x_bin,bn_s,x_callB,binA,intOp,keepT,newK,genOf,setK,lookK,writeC,conts,appendA,copyA,builtinA,AV.cells,AV.scal,gcH,reach,keysT,keepK,inKs,AV.keys,Ty.isAgg,w_i64,hi2,e8,k3]
theorem last (call sc) (k1:Nat) (XS:List AV) (f:Bool) (c:Option Nat) (m n:Nat) (l:List Int) (hX:AV.pureL XS=true) (hkX:AV.keysL XS=[]) :
    aCode E call sc k1 1 fn45 bodyO (cleanS 1 ((firstReg bodyO).bind fn45.head) (O f XS c XS.length m n (is l)))=some (.exit 0,⟨[(0,.sl f XS c),(3,.ref (1,26,m) 0 n none),(4,.int .i64 XS.length),(9,.bool false)],[((1,26,m),⟨is l,true,true,false,1,false⟩)]⟩):=by
  have kl:=is_keys l
  simp [bodyO,c45,↓s_seq,↓s_reg,↓s_cond,↓s_cons,s_nil,firstReg,s_val,s_rgx,s_sqn,s_sqe,s_cdb,s_exit,s_clean,o_tmp,l_hit,l_miss,ol_nil,ol_cons,ol_some,x_move,x_bin,bn_s,x_callB,binA,intOp,keepT,newK,genOf,setK,lookK,writeL,writeC,conts,appendA,copyA,builtinA,AV.cells,AV.scal,gcH,reach,keysT,keepK,inKs,AV.keys,Ty.isAgg,kl]
theorem at_ (f c) (xs:List Int) (i:Nat) (x:Int) (h:xs[i]? = some x):∀ hp,indexAddrA E 22 (.sl f (bs xs) c) (.int .i64 i) hp=some (.pel [.int .u8 x]):=by
  intro hp
  have hl:i < xs.length:=(List.getElem?_eq_some_iff.1 h).1
  have e:(bs xs)[i]? = some (.int .u8 x):=by rw [bs_get,h]; rfl
  unfold indexAddrA
  simp only [E_ty22]
  rw [if_pos ⟨by omega,by rw [bs_length]; omega⟩]
  simp only [Int.toNat_natCast,e,E_ty5]
  simp [AV.cells,AV.scal]
theorem chunk_one':∀ (l:List AV),chunk false 1 l.length l=l
  | [] => rfl
  | x :: l => by simp [chunk,chunk_one' l]
theorem seal_row {n:Nat} {h:Heap} {key:Key} {ys:List AV} {len cap mt ex} (hk:lookK h key=some ⟨ys,true,mt,ex,1,false⟩) (hl:len=ys.length) (hp:AV.pureL ys=true):sealA (n + 2) h (.ref key 0 len cap)=some (.sl false ys cap,setK h key ⟨ys,true,false,ex,1,false⟩):=by
  subst hl
  unfold sealA
  simp only [AV.pure,Bool.false_eq_true,if_false,hk,List.drop_zero,Nat.mul_one,List.take_length,Nat.zero_add]
  rw [if_pos ⟨trivial,Nat.le_refl _,fun _ => trivial⟩,sealL_of_pure n _ _ hp]
  simp only [chunk_one']
def bits (xs:List Int):List Int:=xs.flatMap b8
theorem b8_length (x):(b8 x).length=8:=rfl
theorem bits_length:∀ xs,(bits xs).length=8 * xs.length
  | [] => rfl
  | x :: xs => by
    show (b8 x ++ bits xs).length=_
    rw [List.length_append,bits_length xs,b8_length,List.length_cons]; omega
theorem bits_take (xs:List Int) (i:Nat) (x:Int) (h:xs[i]? = some x):bits (xs.take (i + 1))=bits (xs.take i) ++ b8 x:=by
  have:xs.take (i + 1)=xs.take i ++ [x]:=by rw [List.take_add_one,h]; rfl
  rw [this]; simp [bits]
theorem loop (call sc) (q k:Nat) (f:Bool) (c:Option Nat) (xs:List Int) (hb:isB xs) (hl:xs.length < 100000) (h0:0 < xs.length) (hk:xs.length < k) :
    ∃ m,aLoop (aCode E call sc (q + 9) 1 fn45 bodyO) (cleanS 1 ((firstReg bodyO).bind fn45.head)) (k + 1) ⟨[(0,.sl f (bs xs) c),(3,.sl true [] (some 0)),(4,.int .i64 0)],[]⟩=some (.exit 0,⟨[(0,.sl f (bs xs) c),(3,.ref (1,26,m) 0 (bits xs).length none),(4,.int .i64 xs.length),(9,.bool false)],[((1,26,m),⟨is (bits xs),true,true,false,1,false⟩)]⟩):=by
  have hX:=bs_pure xs
  have hkX:AV.keysL (bs xs)=[]:=AV.keysL_pure _ hX
  have lx:∀ (i:Nat) (x:Int),xs[i]? = some x → 0 ≤ x ∧ x < 256:=fun i x h => hb x (List.mem_of_getElem? h)
  obtain ⟨x0,e0⟩:∃ x,xs[0]? = some x:=⟨xs[0],by simp [h0]⟩
  have r0:=outer0 call sc q (bs xs) f c x0 hX hkX (by rw [bs_length]; omega) (lx 0 x0 e0) (at_ f c xs 0 x0 e0)
  have t1:bits (xs.take 1)=b8 x0:=by have:=bits_take xs 0 x0 e0; simpa [bits] using this
  rw [aLoop_succ r0]
  refine ⟨8 * xs.length - 1,?_⟩
  refine loopR (fun j => O f (bs xs) c ((j + 1:Nat):Int) (8 * (j + 1) - 1) (bits (xs.take (j + 1))).length (is (bits (xs.take (j + 1))))) (xs.length - 1) ?_ ?_ ?_ (by simp) (by omega)
  · show O f (bs xs) c 1 7 (b8 x0).length (is (b8 x0))=O f (bs xs) c ((0 + 1:Nat):Int) (8 * (0 + 1) - 1) (bits (xs.take (0 + 1))).length (is (bits (xs.take (0 + 1))))
    rw [Nat.zero_add,t1]; rfl
  · intro j hj
    obtain ⟨x,e⟩:∃ x,xs[j + 1]? = some x:=⟨xs[j + 1],by simp⟩
    have hlen:(bits (xs.take (j + 1))).length < 900000:=by rw [bits_length,List.length_take]; omega
    have r:=outer call sc q (bs xs) f c ((j + 1:Nat):Int) x (8 * (j + 1) - 1) (bits (xs.take (j + 1))) hX hkX hlen (by omega) (by rw [bs_length]; omega) (by omega) (lx _ x e) (at_ f c xs (j + 1) x e)
    have e2:8 * (j + 1) - 1 + 8=8 * (j + 1 + 1) - 1:=by omega
    have e3:((j + 1:Nat):Int) + 1=((j + 1 + 1:Nat):Int):=by omega
    rw [e2,e3,← bits_take xs (j + 1) x e] at r
    exact r
  · have r:=last call sc (q + 9) (bs xs) f c (8 * (xs.length - 1 + 1) - 1) (bits (xs.take (xs.length - 1 + 1))).length (bits (xs.take (xs.length - 1 + 1))) hX hkX
    have e1:xs.length - 1 + 1=xs.length:=by omega
    rw [e1,List.take_length,bs_length] at r
    simp only [e1,List.take_length]
    exact r
theorem bits_nil (f c):Con E 20 45 [.sl f (bs []) c] (.sl true [] (some 0)):=by
  refine .of (g:=[]) rfl ?_
  rw [aCall_fn rfl (E_fn45) rfl (Nat.le_of_ble_eq_true rfl) rfl rfl,body_45,c45]
  simp [↓s_seq,↓s_reg,↓s_cond,↓s_block,↓s_cons,s_nil,s_loop,s_round,s_lpe,firstReg,s_val,s_rgx,s_sqn,s_sqe,s_cdb,s_bke,s_exit,s_ret',s_finr,s_fin1,s_fix,s_clean,o_tmp,o_int,o_nil,l_hit,l_miss,ol_nil,ol_cons,ol_some,x_move,x_assign,x_bin,bn_s,x_callB,frame0,binA,intOp,resL,resA,results1,sealA,AV.pure,keepT,newK,genOf,setK,lookK,writeC,conts,appendA,copyA,builtinA,AV.cells,AV.scal,gcH,Ty.isAgg,bs_nil]
theorem bits_con (f c) (xs:List Int) (hb:isB xs) (hl:xs.length < 100000) (h0:0 < xs.length) (N:Nat) (hN:xs.length + 20 ≤ N):Con E N 45 [.sl f (bs xs) c] (.sl false (is (bits xs)) none):=by
  obtain ⟨q,rfl⟩:∃ q,N=q + 9 + 1:=⟨N - 10,by omega⟩
  refine .of (g:=[]) (by simp [AV.pureL,AV.pure]) ?_
  rw [aCall_fn rfl (E_fn45) (by simp [AV.pureL,AV.pure]) (Nat.le_of_ble_eq_true rfl) rfl rfl,body_45,c45]
  obtain ⟨m,e⟩:=loop (aCall E (q + 9)) (dcall (aRun E (q + 9))) q (q + 8) f c xs hb hl h0 (by omega)
  simp [bodyO,c45,firstReg] at e
  have k1:=is_keys (bits xs)
  have k2:=is_pure (bits xs)
  have k3:=is_length (bits xs)
  have sl:∀ h,lookK h (1,26,m)=some ⟨is (bits xs),true,true,false,1,false⟩ → sealA 20 h (.ref (1,26,m) 0 (bits xs).length none)=some (.sl false (is (bits xs)) none,setK h (1,26,m) ⟨is (bits xs),true,false,false,1,false⟩):=fun h hk => seal_row (n:=18) hk k3.symm k2
  simp [↓s_seq,↓s_reg,↓s_block,↓s_cons,s_nil,s_loop,firstReg,s_val,s_rgx,s_sqn,s_bke,s_ret',s_finr,s_fin1,s_fix,s_clean,o_tmp,o_int,o_nil,l_hit,l_miss,x_move,x_assign,frame0,resL,resA,results1,AV.pure,keepT,setK,lookK,gcH,reach,keysT,keepK,inKs,AV.keys,e,k1,sl]
end T2
end
section
open Ab Go TabB T1 T2
namespace T3
theorem bs_keys (l):AV.keysL (bs l)=[]:=AV.keysL_pure _ (bs_pure l)
theorem bs_zero (n:Nat):List.replicate n (AV.int .u8 0)=bs (List.replicate n 0):=by simp [bs]
theorem w_first (xs:List Int) (n:Nat):writeL (bs (List.replicate (xs.length + n) 0)) 0 (bs xs)=bs (xs ++ List.replicate n 0):=by
  simp [writeL,bs]
theorem w_then (xs ys:List Int):writeL (bs (xs ++ List.replicate ys.length 0)) xs.length (bs ys)=bs (xs ++ ys):=by
  unfold writeL
  rw [bs_append,List.take_left' (bs_length xs),bs_length,bs_append,List.drop_eq_nil_of_le (by simp [bs]),List.append_nil]
theorem wc1 (xs:List Int) (n:Nat):writeC [((1,12,0),⟨bs (List.replicate (xs.length + n) 0),true,true,true,1,false⟩)] (1,12,0) 0 (bs xs)=some [((1,12,0),⟨bs (xs ++ List.replicate n 0),true,true,true,1,false⟩)]:=by
  unfold writeC
  simp only [lookK,if_true]
  rw [if_pos ⟨trivial,trivial,by simp [bs],bs_scal xs⟩,w_first]
  simp [setK]
theorem wc2 (xs ys:List Int):writeC [((1,12,0),⟨bs (xs ++ List.replicate ys.length 0),true,true,true,1,false⟩)] (1,12,0) xs.length (bs ys)=some [((1,12,0),⟨bs (xs ++ ys),true,true,true,1,false⟩)]:=by
  unfold writeC
  simp only [lookK,if_true]
  rw [if_pos ⟨trivial,trivial,by simp [bs],bs_scal ys⟩,w_then]
  simp [setK]
theorem joined (f g c d) (xs ys:List Int) (hx:xs.length < 1000000) (hy:ys.length < 1000000):Con E 10 46 [.sl f (bs xs) c,.sl g (bs ys) d] (.sl false (bs (xs ++ ys)) (some (xs.length + ys.length))):=by
  refine .of (g:=[]) (by simp [AV.pureL,AV.pure]) ?_
  rw [aCall_fn rfl (E_fn46) (by simp [AV.pureL,AV.pure]) (Nat.le_of_ble_eq_true rfl) rfl rfl,body_46,c46]
  have w:=w64 ((xs.length:Int) + (ys.length:Int)) (by omega) (by omega)
  have n0:(0:Int) ≤ (xs.length:Int) + (ys.length:Int):=by omega
  have n1:(xs.length:Int) + (ys.length:Int) ≤ 70368744177664:=by omega
  have n2:((xs.length:Int) + (ys.length:Int)).toNat=xs.length + ys.length:=by omega
  have m1:min xs.length (xs.length + ys.length)=xs.length:=by omega
  have m2:min ys.length ys.length=ys.length:=by omega
  have w1:=wc1 xs ys.length
  have w2:=wc2 xs ys
  have w3:=w64 (xs.length:Int) (by omega) (by omega)
  have w4:=w64 (ys.length:Int) (by omega) (by omega)
  have k:=bs_keys
  have sl:∀ h,lookK h (1,12,0)=some ⟨bs (xs ++ ys),true,true,true,1,false⟩ → sealA 20 h (.ref (1,12,0) 0 (xs.length + ys.length) (some (xs.length + ys.length)))=some (.sl false (bs (xs ++ ys)) (some (xs.length + ys.length)),setK h (1,12,0) ⟨bs (xs ++ ys),true,false,true,1,false⟩):=fun h hk => seal_row (n:=18) hk (by rw [bs_length]; simp) (bs_pure _)
  by_cases hy0:ys=[]
  · subst hy0
    by_cases hx0:xs=[]
    · subst hx0
      simp [↓s_seq,↓s_reg,↓s_cons,s_nil,s_val,s_rgx,s_sqn,s_ret',s_finr,s_fin1,s_fix,s_clean,o_tmp,o_nil,l_hit,l_miss,ol_nil,ol_cons,ol_some,x_move,x_assign,x_bin,bn_s,x_callB,frame0,binA,intOp,resL,resA,results1,sealA,AV.pure,keepT,x_slice,slx,x_makeSlice,msx,newK,genOf,setK,lookK,writeL,writeC,conts,sliceA,boundsA,boundsB,fitsA,numA,appendA,copyA,builtinA,AV.cells,AV.scal,gcH,reach,keysT,keepK,inKs,AV.keys,AV.keysL,Ty.isAgg,w_i64,bs_nil]
    · have hx1:0 < xs.length:=List.length_pos_iff.2 hx0
      have v1:writeC [((1,12,0),⟨bs (List.replicate xs.length 0),true,true,true,1,false⟩)] (1,12,0) 0 (bs xs)=some [((1,12,0),⟨bs xs,true,true,true,1,false⟩)]:=by simpa using wc1 xs 0
      have v2:(xs.length:Int) ≤ 70368744177664:=by omega
      have v3:∀ h,lookK h (1,12,0)=some ⟨bs xs,true,true,true,1,false⟩ → sealA 20 h (.ref (1,12,0) 0 xs.length (some xs.length))=some (.sl false (bs xs) (some xs.length),setK h (1,12,0) ⟨bs xs,true,false,true,1,false⟩):=fun h hk => seal_row (n:=18) hk (by rw [bs_length]) (bs_pure _)
      have v4:min xs.length xs.length=xs.length:=by omega
      simp [↓s_seq,↓s_reg,↓s_cons,s_nil,s_val,s_rgx,s_sqn,s_ret',s_finr,s_fin1,s_fix,s_clean,o_tmp,o_nil,l_hit,l_miss,ol_nil,ol_cons,ol_some,x_move,x_assign,x_bin,bn_s,x_callB,frame0,binA,intOp,resL,resA,results1,AV.pure,keepT,x_slice,slx,x_makeSlice,msx,newK,genOf,setK,lookK,conts,sliceA,boundsA,boundsB,fitsA,numA,appendA,copyA,builtinA,AV.cells,AV.scal,gcH,reach,keysT,keepK,inKs,AV.keys,Ty.isAgg,bs_length,bs_cells,bs_all,bs_nil,bs_zero,v1,v2,v3,v4,w3,k,hx0]
  · have hy1:0 < ys.length:=List.length_pos_iff.2 hy0
    simp [↓s_seq,↓s_reg,↓s_cons,s_nil,s_val,s_rgx,s_sqn,s_ret',s_finr,s_fin1,s_fix,s_clean,o_tmp,o_nil,l_hit,l_miss,ol_nil,ol_cons,ol_some,x_move,x_assign,x_bin,bn_s,x_callB,frame0,binA,intOp,resL,resA,results1,AV.pure,keepT,x_slice,slx,x_makeSlice,msx,newK,genOf,setK,lookK,conts,sliceA,boundsA,boundsB,fitsA,numA,appendA,copyA,builtinA,AV.cells,AV.scal,gcH,reach,keysT,keepK,inKs,AV.keys,Ty.isAgg,bs_length,bs_cells,bs_all,w,n0,n1,n2,bs_zero,m1,m2,w1,w2,k,sl,hy0]
end T3
end
section
open Ab Go TabB
attribute [local simp ↓] s_seq s_reg s_regd s_cond s_block s_cons s_consG
attribute [local simp] s_nil s_loop s_round s_lpn s_lpe s_lpr firstReg s_gt s_gf s_wb s_wu s_val s_valN s_skip s_calls s_callP s_cax lookR flatR pureKs s_ret s_rgx s_sqn s_sqr s_sqe s_cdb s_bkn s_bkr s_bke s_exit s_ret' s_skip' s_finr s_finn s_fin1 s_fix s_clean s_gc0 o_tmp o_int o_bool o_nil o_str o_fn o_nil' l_hit l_miss l_nil ol_nil ol_cons ol_some x_move x_assign x_pick pk_t pk_f x_bin bn_s x_un x_extract x_callF cl_no x_callB x_callBF frzV x_conv cvx convA frame0 binA intOp resL resA results1 sealA sealLW AV.pure AV.pureL keepT x_alloc x_box bxx x_build bdx x_buildSlice bsx x_buildSliceF bsf x_load ldx x_store stx x_slice slx x_fieldAddr x_field x_index ixx x_indexAddr iax x_makeSlice msx x_nilCheck newK genOf setK lookK fillA writeL writeC readC conts TyI.mk1 sliceA boundsA boundsB fitsA numA indexAddrA fieldAddrA partA fieldA indexA appendA copyA builtinA AV.cells AV.scal chunk gcH reach keysT keepK inKs AV.keys AV.keysL Ty.isAgg eq1 eqL convA.go ltI w_u8 w_u32 w_u64 w_i64 w_fdiv w_tdiv w_tmod IntKind.bits unA
section
open Ab Go TabB T1 T2 T3
namespace T4
def bO24:Code:=match c24 with
  | .seq _ (.seq _ (.seq (.seq _ (.block _ (.loop b))) _)) => b
  | _ => .skip
def bI24:Code:=match bO24 with
  | .seq _ (.seq (.block _ (.seq _ (.seq (.seq _ (.block _ (.loop b))) _))) _) => b
  | _ => .skip
def R (m n:Nat):AV:=.ref (1,37,m) 0 n none
def isBit (l:List Int):Prop:=∀ x ∈ l,x=0 ∨ x=1
theorem atI (f c) (l:List Int) (i:Nat) (x:Int) (h:l[i]? = some x):∀ hp,indexAddrA E 39 (.sl f (is l) c) (.int .i64 i) hp=some (.pel [.int .i64 x]):=by
  intro hp
  have hl:i < l.length:=(List.getElem?_eq_some_iff.1 h).1
  have e:(is l)[i]? = some (.int .i64 x):=by
    have:(is l)[i]? = (l[i]?).map (.int .i64):=List.getElem?_map ..
    rw [this,h]; rfl
  unfold indexAddrA
  simp only [E_ty39]
  rw [if_pos ⟨by omega,by rw [is_length]; omega⟩]
  simp only [Int.toNat_natCast,e,E_ty3]
  simp [AV.cells,AV.scal]
theorem inA (call sc) (k1:Nat) (l:List Int) (f:Bool) (c:Option Nat) (i k v:Int) (h0:0 ≤ i) (h1:i < 1000000) (k0:0 ≤ k) (k8:k < 8) (v0:0 ≤ v) (v1:v < 256) (x:Int) (hx:x=0 ∨ x=1) (hi:i + k < (l.length:Int)) (ix:∀ h,indexAddrA E 39 (.sl f (is l) c) (.int .i64 (i + k)) h=some (.pel [.int .i64 x])) :
    aCode E call sc k1 1 fn24 bI24 (cleanS 1 ((firstReg bI24).bind fn24.head) ⟨[(0,.sl f (is l) c),(3,.sl true [] (some 0)),(4,.int .i64 i),(5,.int .i64 v),(6,.int .i64 k)],[]⟩)=some (.normal,⟨[(0,.sl f (is l) c),(3,.sl true [] (some 0)),(4,.int .i64 i),(5,.int .i64 (2 * v + x)),(6,.int .i64 (k + 1))],[]⟩):=by
  have w1:=w64 (2 * v) (by omega) (by omega)
  have w2:=w64 (i + k) (by omega) (by omega)
  have w3:=w64 (2 * v + x) (by omega) (by omega)
  have w4:=w64 (k + 1) (by omega) (by omega)
  have p:=is_pure l
  have kk:=is_keys l
  have ln:=is_length l
  simp [bI24,bO24,c24,p,kk,ln,k8,hi,-indexAddrA,ix,w1,w2,w3,w4]
theorem outA (call sc) (k1:Nat) (l:List Int) (f:Bool) (c:Option Nat) (i k v:Int) (h0:0 ≤ i) (h1:i < 1000000) (k0:0 ≤ k) (k8:k < 8) (v0:0 ≤ v) (v1:v < 256) (hi:¬ i + k < (l.length:Int)) :
    aCode E call sc k1 1 fn24 bI24 (cleanS 1 ((firstReg bI24).bind fn24.head) ⟨[(0,.sl f (is l) c),(3,.sl true [] (some 0)),(4,.int .i64 i),(5,.int .i64 v),(6,.int .i64 k)],[]⟩)=some (.normal,⟨[(0,.sl f (is l) c),(3,.sl true [] (some 0)),(4,.int .i64 i),(5,.int .i64 (2 * v)),(6,.int .i64 (k + 1))],[]⟩):=by
  have w1:=w64 (2 * v) (by omega) (by omega)
  have w2:=w64 (i + k) (by omega) (by omega)
  have w4:=w64 (k + 1) (by omega) (by omega)
  have p:=is_pure l
  have kk:=is_keys l
  have ln:=is_length l
  simp [bI24,bO24,c24,p,kk,ln,k8,hi,w1,w2,w4]
theorem inB (call sc) (k1:Nat) (l:List Int) (f:Bool) (c:Option Nat) (i k v:Int) (m n:Nat) (ys:List AV) (hky:AV.keysL ys=[]) (h0:0 ≤ i) (h1:i < 1000000) (k0:0 ≤ k) (k8:k < 8) (v0:0 ≤ v) (v1:v < 256) (x:Int) (hx:x=0 ∨ x=1) (hi:i + k < (l.length:Int)) (ix:∀ h,indexAddrA E 39 (.sl f (is l) c) (.int .i64 (i + k)) h=some (.pel [.int .i64 x])) :
    aCode E call sc k1 1 fn24 bI24 (cleanS 1 ((firstReg bI24).bind fn24.head) ⟨[(0,.sl f (is l) c),(3,.ref (1,37,m) 0 n none),(4,.int .i64 i),(5,.int .i64 v),(6,.int .i64 k)],[((1,37,m),⟨ys,true,true,false,1,false⟩)]⟩)=some (.normal,⟨[(0,.sl f (is l) c),(3,.ref (1,37,m) 0 n none),(4,.int .i64 i),(5,.int .i64 (2 * v + x)),(6,.int .i64 (k + 1))],[((1,37,m),⟨ys,true,true,false,1,false⟩)]⟩):=by
  have w1:=w64 (2 * v) (by omega) (by omega)
  have w2:=w64 (i + k) (by omega) (by omega)
  have w3:=w64 (2 * v + x) (by omega) (by omega)
  have w4:=w64 (k + 1) (by omega) (by omega)
  have p:=is_pure l
  have kk:=is_keys l
  have ln:=is_length l
  simp [bI24,bO24,c24,p,kk,ln,k8,hi,-indexAddrA,ix,w1,w2,w3,w4,hky]
theorem outB (call sc) (k1:Nat) (l:List Int) (f:Bool) (c:Option Nat) (i k v:Int) (m n:Nat) (ys:List AV) (hky:AV.keysL ys=[]) (h0:0 ≤ i) (h1:i < 1000000) (k0:0 ≤ k) (k8:k < 8) (v0:0 ≤ v) (v1:v < 256) (hi:¬ i + k < (l.length:Int)) :
    aCode E call sc k1 1 fn24 bI24 (cleanS 1 ((firstReg bI24).bind fn24.head) ⟨[(0,.sl f (is l) c),(3,.ref (1,37,m) 0 n none),(4,.int .i64 i),(5,.int .i64 v),(6,.int .i64 k)],[((1,37,m),⟨ys,true,true,false,1,false⟩)]⟩)=some (.normal,⟨[(0,.sl f (is l) c),(3,.ref (1,37,m) 0 n none),(4,.int .i64 i),(5,.int .i64 (2 * v)),(6,.int .i64 (k + 1))],[((1,37,m),⟨ys,true,true,false,1,false⟩)]⟩):=by
  have w1:=w64 (2 * v) (by omega) (by omega)
  have w2:=w64 (i + k) (by omega) (by omega)
  have w4:=w64 (k + 1) (by omega) (by omega)
  have p:=is_pure l
  have kk:=is_keys l
  have ln:=is_length l
  simp [bI24,bO24,c24,p,kk,ln,k8,hi,w1,w2,w4,hky]
end T4
end
end
section
open Ab Go TabB T1 T2 T3 T4
namespace T5
def bit (l:List Int) (j:Nat):Int:=(l[j]?).getD 0
def val (l:List Int) (p:Nat):Nat → Int
  | 0 => 0
  | k + 1 => 2 * val l p k + bit l (p + k)
theorem bit_01 {l:List Int} (hb:isBit l) (j:Nat):bit l j=0 ∨ bit l j=1:=by
  unfold bit
  cases h:l[j]? with
  | none => exact .inl rfl
  | some x => exact hb x (List.mem_of_getElem? h)
theorem val_lt {l:List Int} (hb:isBit l) (p:Nat):∀ k,0 ≤ val l p k ∧ val l p k < 2 ^ k
  | 0 => by simp [val]
  | k + 1 => by
    have h:=val_lt hb p k
    have b:=bit_01 hb (p + k)
    simp only [val]
    rw [Int.pow_succ]
    omega
theorem val_256 {l:List Int} (hb:isBit l) (p k:Nat) (h:k ≤ 8):0 ≤ val l p k ∧ val l p k < 256:=by
  have a:=val_lt hb p k
  have hk:k=0 ∨ k=1 ∨ k=2 ∨ k=3 ∨ k=4 ∨ k=5 ∨ k=6 ∨ k=7 ∨ k=8:=by omega
  rcases hk with rfl | rfl | rfl | rfl | rfl | rfl | rfl | rfl | rfl <;> (simp only [Int.reducePow] at a; omega)
theorem stepA (call sc) (k1:Nat) (l:List Int) (hb:isBit l) (f:Bool) (c:Option Nat) (p k:Nat) (h1:p < 1000000) (k8:k < 8) :
    aCode E call sc k1 1 fn24 bI24 (cleanS 1 ((firstReg bI24).bind fn24.head) ⟨[(0,.sl f (is l) c),(3,.sl true [] (some 0)),(4,.int .i64 (p:Int)),(5,.int .i64 (val l p k)),(6,.int .i64 ((k:Int)))],[]⟩)=some (.normal,⟨[(0,.sl f (is l) c),(3,.sl true [] (some 0)),(4,.int .i64 (p:Int)),(5,.int .i64 (val l p (k + 1))),(6,.int .i64 (((k + 1:Nat):Int)))],[]⟩):=by
  have v:=val_256 hb p k (by omega)
  by_cases hi:p + k < l.length
  · obtain ⟨x,e⟩:∃ x,l[p + k]? = some x:=⟨l[p + k],by simp [hi]⟩
    have hx:=hb x (List.mem_of_getElem? e)
    have ix:=atI f c l (p + k) x e
    have r:=inA call sc k1 l f c (p:Int) (k:Int) (val l p k) (by omega) (by omega) (by omega) (by omega) v.1 v.2 x hx (by omega) (by intro h; have:=ix h; rwa [Int.natCast_add] at this)
    have bx:bit l (p + k)=x:=by unfold bit; rw [e]; rfl
    simp only [val,bx]
    rw [show ((k + 1:Nat):Int)=(k:Int) + 1 by omega]
    exact r
  · have r:=outA call sc k1 l f c (p:Int) (k:Int) (val l p k) (by omega) (by omega) (by omega) (by omega) v.1 v.2 (by omega)
    have bx:bit l (p + k)=0:=by unfold bit; rw [List.getElem?_eq_none (by omega)]; rfl
    simp only [val,bx,Int.add_zero]
    rw [show ((k + 1:Nat):Int)=(k:Int) + 1 by omega]
    exact r
theorem stopA (call sc) (k1:Nat) (l:List Int) (f:Bool) (c:Option Nat) (p:Nat) (v:Int) :
    aCode E call sc k1 1 fn24 bI24 (cleanS 1 ((firstReg bI24).bind fn24.head) ⟨[(0,.sl f (is l) c),(3,.sl true [] (some 0)),(4,.int .i64 (p:Int)),(5,.int .i64 (v)),(6,.int .i64 (8))],[]⟩)=some (.exit 2,⟨[(0,.sl f (is l) c),(3,.sl true [] (some 0)),(4,.int .i64 (p:Int)),(5,.int .i64 (v)),(6,.int .i64 (8)),(14,.bool false)],[]⟩):=by
  have q:=is_pure l
  have kk:=is_keys l
  simp [bI24,bO24,c24,↓s_seq,↓s_reg,↓s_cond,↓s_cons,s_nil,firstReg,s_val,s_rgx,s_sqn,s_sqe,s_cdb,s_exit,s_clean,o_tmp,o_int,l_hit,l_miss,x_move,x_bin,bn_s,binA,intOp,keepT,gcH]
theorem eightA (call sc) (q:Nat) (l:List Int) (hb:isBit l) (f:Bool) (c:Option Nat) (p:Nat) (h1:p < 1000000) :
    aLoop (aCode E call sc (q + 9) 1 fn24 bI24) (cleanS 1 ((firstReg bI24).bind fn24.head)) (q + 9) ⟨[(0,.sl f (is l) c),(3,.sl true [] (some 0)),(4,.int .i64 (p:Int)),(5,.int .i64 (0)),(6,.int .i64 (0))],[]⟩=some (.exit 2,⟨[(0,.sl f (is l) c),(3,.sl true [] (some 0)),(4,.int .i64 (p:Int)),(5,.int .i64 (val l p 8)),(6,.int .i64 (8)),(14,.bool false)],[]⟩):=by
  refine loopR (fun k => ⟨[(0,.sl f (is l) c),(3,.sl true [] (some 0)),(4,.int .i64 (p:Int)),(5,.int .i64 (val l p k)),(6,.int .i64 ((k:Int)))],[]⟩) 8 rfl (fun k hk => stepA call sc (q + 9) l hb f c p k h1 hk) (stopA call sc (q + 9) l f c p _) (by simp) (by omega)
theorem stepB (call sc) (k1:Nat) (l:List Int) (hb:isBit l) (f:Bool) (c:Option Nat) (p k:Nat) (m n:Nat) (ys:List AV) (hky:AV.keysL ys=[]) (h1:p < 1000000) (k8:k < 8) :
    aCode E call sc k1 1 fn24 bI24 (cleanS 1 ((firstReg bI24).bind fn24.head) ⟨[(0,.sl f (is l) c),(3,.ref (1,37,m) 0 n none),(4,.int .i64 (p:Int)),(5,.int .i64 (val l p k)),(6,.int .i64 ((k:Int)))],[((1,37,m),⟨ys,true,true,false,1,false⟩)]⟩)=some (.normal,⟨[(0,.sl f (is l) c),(3,.ref (1,37,m) 0 n none),(4,.int .i64 (p:Int)),(5,.int .i64 (val l p (k + 1))),(6,.int .i64 (((k + 1:Nat):Int)))],[((1,37,m),⟨ys,true,true,false,1,false⟩)]⟩):=by
  have v:=val_256 hb p k (by omega)
  by_cases hi:p + k < l.length
  · obtain ⟨x,e⟩:∃ x,l[p + k]? = some x:=⟨l[p + k],by simp [hi]⟩
    have hx:=hb x (List.mem_of_getElem? e)
    have ix:=atI f c l (p + k) x e
    have r:=inB call sc k1 l f c (p:Int) (k:Int) (val l p k) m n ys hky (by omega) (by omega) (by omega) (by omega) v.1 v.2 x hx (by omega) (by intro h; have:=ix h; rwa [Int.natCast_add] at this)
    have bx:bit l (p + k)=x:=by unfold bit; rw [e]; rfl
    simp only [val,bx]
    rw [show ((k + 1:Nat):Int)=(k:Int) + 1 by omega]
    exact r
  · have r:=outB call sc k1 l f c (p:Int) (k:Int) (val l p k) m n ys hky (by omega) (by omega) (by omega) (by omega) v.1 v.2 (by omega)
    have bx:bit l (p + k)=0:=by unfold bit; rw [List.getElem?_eq_none (by omega)]; rfl
    simp only [val,bx,Int.add_zero]
    rw [show ((k + 1:Nat):Int)=(k:Int) + 1 by omega]
    exact r
theorem stopB (call sc) (k1:Nat) (l:List Int) (f:Bool) (c:Option Nat) (p:Nat) (v:Int) (m n:Nat) (ys:List AV) (hky:AV.keysL ys=[]) :
    aCode E call sc k1 1 fn24 bI24 (cleanS 1 ((firstReg bI24).bind fn24.head) ⟨[(0,.sl f (is l) c),(3,.ref (1,37,m) 0 n none),(4,.int .i64 (p:Int)),(5,.int .i64 (v)),(6,.int .i64 (8))],[((1,37,m),⟨ys,true,true,false,1,false⟩)]⟩)=some (.exit 2,⟨[(0,.sl f (is l) c),(3,.ref (1,37,m) 0 n none),(4,.int .i64 (p:Int)),(5,.int .i64 (v)),(6,.int .i64 (8)),(14,.bool false)],[((1,37,m),⟨ys,true,true,false,1,false⟩)]⟩):=by
  have q:=is_pure l
  have kk:=is_keys l
  simp [bI24,bO24,c24,↓s_seq,↓s_reg,↓s_cond,↓s_cons,s_nil,firstReg,s_val,s_rgx,s_sqn,s_sqe,s_cdb,s_exit,s_clean,o_tmp,o_int,l_hit,l_miss,x_move,x_bin,bn_s,binA,intOp,keepT,lookK,gcH,reach,keysT,keepK,inKs,AV.keys,hky]
theorem eightB (call sc) (q:Nat) (l:List Int) (hb:isBit l) (f:Bool) (c:Option Nat) (p:Nat) (m n:Nat) (ys:List AV) (hky:AV.keysL ys=[]) (h1:p < 1000000) :
    aLoop (aCode E call sc (q + 9) 1 fn24 bI24) (cleanS 1 ((firstReg bI24).bind fn24.head)) (q + 9) ⟨[(0,.sl f (is l) c),(3,.ref (1,37,m) 0 n none),(4,.int .i64 (p:Int)),(5,.int .i64 (0)),(6,.int .i64 (0))],[((1,37,m),⟨ys,true,true,false,1,false⟩)]⟩=some (.exit 2,⟨[(0,.sl f (is l) c),(3,.ref (1,37,m) 0 n none),(4,.int .i64 (p:Int)),(5,.int .i64 (val l p 8)),(6,.int .i64 (8)),(14,.bool false)],[((1,37,m),⟨ys,true,true,false,1,false⟩)]⟩):=by
  refine loopR (fun k => ⟨[(0,.sl f (is l) c),(3,.ref (1,37,m) 0 n none),(4,.int .i64 (p:Int)),(5,.int .i64 (val l p k)),(6,.int .i64 ((k:Int)))],[((1,37,m),⟨ys,true,true,false,1,false⟩)]⟩) 8 rfl (fun k hk => stepB call sc (q + 9) l hb f c p k m n ys hky h1 hk) (stopB call sc (q + 9) l f c p _ m n ys hky) (by simp) (by omega)
abbrev O (f:Bool) (l:List Int) (c:Option Nat) (p m n:Nat) (ys:List AV):St:=⟨[(0,.sl f (is l) c),(3,.ref (1,37,m) 0 n none),(4,.int .i64 (p:Int))],[((1,37,m),⟨ys,true,true,false,1,false⟩)]⟩
theorem outer (call sc) (q:Nat) (l:List Int) (hb:isBit l) (f:Bool) (c:Option Nat) (p m:Nat) (ys:List Int) (h1:p < 900000) (hi:(p:Int) < (l.length:Int)) (hn:ys.length < 900000) :
    aCode E call sc (q + 9) 1 fn24 bO24 (cleanS 1 ((firstReg bO24).bind fn24.head) (O f l c p m ys.length (bs ys)))=some (.normal,O f l c (p + 8) (m + 1) (ys ++ [val l p 8]).length (bs (ys ++ [val l p 8]))):=by
  have e8:=eightB call sc q l hb f c p m ys.length (bs ys) (bs_keys ys) (by omega)
  simp [bI24,bO24,c24,firstReg] at e8
  have v:=val_256 hb p 8 (by omega)
  have w:=w64 ((p:Int) + 8) (by omega) (by omega)
  have w8:val l p 8 % 256=val l p 8:=Int.emod_eq_of_lt v.1 v.2
  have a1:bs (ys ++ [val l p 8])=bs ys ++ [.int .u8 (val l p 8)]:=by simp [bs]
  have a2:AV.keysL (bs ys ++ [.int .u8 (val l p 8)])=[]:=by rw [← a1]; exact bs_keys _
  have a3:=bs_keys ys
  have cp:ys.length + 1 ≤ 70368744177664:=by omega
  have q1:=is_pure l
  have kk:=is_keys l
  have ln:=is_length l
  have pp:=bs_pure ys
  simp [bO24,c24,↓s_seq,↓s_reg,↓s_cond,↓s_block,↓s_cons,s_nil,s_loop,firstReg,s_val,s_rgx,s_sqn,s_cdb,s_bkn,s_bke,s_skip',s_clean,o_tmp,o_int,l_hit,l_miss,ol_nil,ol_cons,ol_some,x_move,x_assign,x_bin,bn_s,x_callB,x_conv,cvx,convA,binA,intOp,keepT,x_buildSlice,bsx,newK,genOf,setK,lookK,fillA,writeL,writeC,conts,appendA,copyA,builtinA,AV.cells,AV.scal,gcH,reach,keysT,keepK,inKs,AV.keys,Ty.isAgg,w_u8,ln,hi,e8,w,w8,a1,a2,a3,cp,bs_length]
theorem outer0 (call sc) (q:Nat) (l:List Int) (hb:isBit l) (f:Bool) (c:Option Nat) (hi:(0:Int) < (l.length:Int)) :
    aCode E call sc (q + 9) 1 fn24 bO24 (cleanS 1 ((firstReg bO24).bind fn24.head) ⟨[(0,.sl f (is l) c),(3,.sl true [] (some 0)),(4,.int .i64 0)],[]⟩)=some (.normal,O f l c 8 0 1 (bs [val l 0 8])):=by
  have e8:=eightA call sc q l hb f c 0 (by omega)
  simp [bI24,bO24,c24,firstReg] at e8
  have v:=val_256 hb 0 8 (by omega)
  have w8:val l 0 8 % 256=val l 0 8:=Int.emod_eq_of_lt v.1 v.2
  have a1:bs [val l 0 8]=[.int .u8 (val l 0 8)]:=rfl
  have q1:=is_pure l
  have kk:=is_keys l
  have ln:=is_length l
  have hi2:0 < l.length:=by omega
  have hi3:l ≠ []:=by intro e; subst e; simp at hi2
  simp [bO24,c24,↓s_seq,↓s_reg,↓s_cond,↓s_block,↓s_cons,s_nil,s_loop,firstReg,s_val,s_rgx,s_sqn,s_cdb,s_bkn,s_bke,s_skip',s_clean,o_tmp,o_int,l_hit,l_miss,ol_nil,ol_cons,ol_some,x_move,x_assign,x_bin,bn_s,x_callB,x_conv,cvx,convA,binA,intOp,keepT,x_buildSlice,bsx,newK,genOf,setK,lookK,fillA,writeL,writeC,conts,appendA,copyA,builtinA,AV.cells,AV.scal,gcH,reach,keysT,keepK,inKs,AV.keys,AV.keysL,Ty.isAgg,w_u8,w_i64,ln,hi2,e8,w8,a1]
theorem last (call sc) (k1:Nat) (l:List Int) (f:Bool) (c:Option Nat) (p m n:Nat) (ys:List Int) (hi:¬ (p:Int) < (l.length:Int)) :
    aCode E call sc k1 1 fn24 bO24 (cleanS 1 ((firstReg bO24).bind fn24.head) (O f l c p m n (bs ys)))=some (.exit 0,⟨[(0,.sl f (is l) c),(3,.ref (1,37,m) 0 n none),(4,.int .i64 (p:Int)),(10,.bool false)],[((1,37,m),⟨bs ys,true,true,false,1,false⟩)]⟩):=by
  have a3:=bs_keys ys
  have q1:=is_pure l
  have kk:=is_keys l
  have ln:=is_length l
  simp [bO24,c24,↓s_seq,↓s_reg,↓s_cond,↓s_cons,s_nil,firstReg,s_val,s_rgx,s_sqn,s_sqe,s_cdb,s_exit,s_clean,o_tmp,l_hit,l_miss,ol_nil,ol_cons,ol_some,x_move,x_bin,bn_s,x_callB,binA,intOp,keepT,newK,genOf,setK,lookK,writeL,writeC,conts,appendA,copyA,builtinA,AV.cells,AV.scal,gcH,reach,keysT,keepK,inKs,AV.keys,Ty.isAgg,ln,hi,a3]
end T5
end
section
open Ab Go TabB T1 T2 T3 T4 T5
namespace T6
def upto (l:List Int) (j:Nat):List Int:=(List.range j).map fun j => val l (8 * j) 8
def bytesOf (l:List Int):List Int:=upto l ((l.length + 7) / 8)
theorem upto_length (l j):(upto l j).length=j:=by simp [upto]
theorem upto_succ (l j):upto l (j + 1)=upto l j ++ [val l (8 * j) 8]:=by simp [upto,List.range_succ]
theorem loop (call sc) (q k:Nat) (f:Bool) (c:Option Nat) (l:List Int) (hb:isBit l) (hl:l.length < 800000) (h0:0 < l.length) (hk:l.length < k) :
    ∃ m p:Nat,aLoop (aCode E call sc (q + 9) 1 fn24 bO24) (cleanS 1 ((firstReg bO24).bind fn24.head)) (k + 1) ⟨[(0,.sl f (is l) c),(3,.sl true [] (some 0)),(4,.int .i64 0)],[]⟩=some (.exit 0,⟨[(0,.sl f (is l) c),(3,.ref (1,37,m) 0 (bytesOf l).length none),(4,.int .i64 (p:Int)),(10,.bool false)],[((1,37,m),⟨bs (bytesOf l),true,true,false,1,false⟩)]⟩):=by
  have r0:=outer0 call sc q l hb f c (by omega)
  rw [aLoop_succ r0]
  obtain ⟨N,eN⟩:∃ N,(l.length + 7) / 8=N + 1:=⟨(l.length + 7) / 8 - 1,by omega⟩
  refine ⟨N,8 * (N + 1),?_⟩
  refine loopR (fun j => O f l c (8 * (j + 1)) j (upto l (j + 1)).length (bs (upto l (j + 1)))) N rfl ?_ ?_ (by simp) (by omega)
  · intro j hj
    have r:=outer call sc q l hb f c (8 * (j + 1)) j (upto l (j + 1)) (by omega) (by omega) (by rw [upto_length]; omega)
    rw [← upto_succ] at r
    exact r
  · have r:=last call sc (q + 9) l f c (8 * (N + 1)) N (upto l (N + 1)).length (upto l (N + 1)) (by omega)
    have e:bytesOf l=upto l (N + 1):=by unfold bytesOf; rw [eN]
    rw [e]
    exact r
theorem bytes_nil (f c):Con E 20 24 [.sl f [] c] (.sl true [] (some 0)):=by
  refine .of (g:=[]) rfl ?_
  rw [aCall_fn rfl (E_fn24) rfl (Nat.le_of_ble_eq_true rfl) rfl rfl,body_24,c24]
  simp [↓s_seq,↓s_reg,↓s_cond,↓s_block,↓s_cons,s_nil,s_loop,s_round,s_lpe,firstReg,s_val,s_rgx,s_sqn,s_sqe,s_cdb,s_bke,s_exit,s_ret',s_finr,s_fin1,s_fix,s_clean,o_tmp,o_int,o_nil,l_hit,l_miss,ol_nil,ol_cons,ol_some,x_move,x_assign,x_bin,bn_s,x_callB,frame0,binA,intOp,resL,resA,results1,sealA,AV.pure,keepT,newK,genOf,setK,lookK,writeC,conts,appendA,copyA,builtinA,AV.cells,AV.scal,gcH,Ty.isAgg]
theorem bytes_con (f c) (l:List Int) (hb:isBit l) (hl:l.length < 800000) (h0:0 < l.length) (N:Nat) (hN:l.length + 20 ≤ N):Con E N 24 [.sl f (is l) c] (.sl false (bs (bytesOf l)) none):=by
  obtain ⟨q,rfl⟩:∃ q,N=q + 9 + 1:=⟨N - 10,by omega⟩
  refine .of (g:=[]) (by simp [AV.pureL,AV.pure]) ?_
  rw [aCall_fn rfl (E_fn24) (by simp [AV.pureL,AV.pure]) (Nat.le_of_ble_eq_true rfl) rfl rfl,body_24,c24]
  obtain ⟨m,p,e⟩:=loop (aCall E (q + 9)) (dcall (aRun E (q + 9))) q (q + 8) f c l hb hl h0 (by omega)
  simp [bO24,c24,firstReg] at e
  have k1:=bs_keys (bytesOf l)
  have k2:=bs_pure (bytesOf l)
  have k3:=bs_length (bytesOf l)
  have sl:∀ h,lookK h (1,37,m)=some ⟨bs (bytesOf l),true,true,false,1,false⟩ → sealA 20 h (.ref (1,37,m) 0 (bytesOf l).length none)=some (.sl false (bs (bytesOf l)) none,setK h (1,37,m) ⟨bs (bytesOf l),true,false,false,1,false⟩):=fun h hk => seal_row (n:=18) hk k3.symm k2
  simp [↓s_seq,↓s_reg,↓s_block,↓s_cons,s_nil,s_loop,firstReg,s_val,s_rgx,s_sqn,s_bke,s_ret',s_finr,s_fin1,s_fix,s_clean,o_tmp,o_int,o_nil,l_hit,l_miss,x_move,x_assign,frame0,resL,resA,results1,AV.pure,keepT,setK,lookK,gcH,reach,keysT,keepK,inKs,AV.keys,e,k1,sl]
end T6
end
section
open Ab Go TabB
attribute [local simp ↓] s_seq s_reg s_regd s_cond s_block s_cons s_consG
attribute [local simp] s_nil s_loop s_round s_lpn s_lpe s_lpr firstReg s_gt s_gf s_wb s_wu s_val s_valN s_skip s_calls s_callP s_cax lookR flatR pureKs s_ret s_rgx s_sqn s_sqr s_sqe s_cdb s_bkn s_bkr s_bke s_exit s_ret' s_skip' s_finr s_finn s_fin1 s_fix s_clean s_gc0 o_tmp o_int o_bool o_nil o_str o_fn o_nil' l_hit l_miss l_nil ol_nil ol_cons ol_some x_move x_assign x_pick pk_t pk_f x_bin bn_s x_un x_extract x_callF cl_no x_callB x_callBF frzV x_conv cvx convA frame0 binA intOp resL resA results1 sealA sealLW AV.pure AV.pureL keepT x_alloc x_box bxx x_build bdx x_buildSlice bsx x_buildSliceF bsf x_load ldx x_store stx x_slice slx x_fieldAddr x_field x_index ixx x_indexAddr iax x_makeSlice msx x_nilCheck newK genOf setK lookK fillA writeL writeC readC conts TyI.mk1 sliceA boundsA boundsB fitsA numA indexAddrA fieldAddrA partA fieldA indexA appendA copyA builtinA AV.cells AV.scal chunk gcH reach keysT keepK inKs AV.keys AV.keysL Ty.isAgg eq1 eqL convA.go ltI w_u8 w_u32 w_u64 w_i64 w_fdiv w_tdiv w_tmod IntKind.bits unA
section
open Ab Go TabB T1 T2 T3 T4 T5 T6
namespace T7
def b22:Code:=match c22 with
  | .seq _ (.seq _ (.seq _ (.seq _ (.seq (.seq _ (.block _ (.loop b))) _)))) => b
  | _ => .skip
abbrev S (l:List Int) (n:Int) (i:Int):St:=⟨[(4,.sl false (is l) none),(5,.int .i64 n),(6,.int .i64 i)],[]⟩
theorem go (call sc) (k1:Nat) (l:List Int) (n:Int) (i:Nat) (h:l[i]? = some 0) (hl:l.length < 1000000) :
    aCode E call sc k1 1 fn22 b22 (cleanS 1 ((firstReg b22).bind fn22.head) (S l n (i:Int)))=some (.normal,S l n ((i + 1:Nat):Int)):=by
  have hi:i < l.length:=(List.getElem?_eq_some_iff.1 h).1
  have hi2:(i:Int) < (l.length:Int):=by omega
  have ix:=atI false none l i 0 h
  have w:=w64 ((i:Int) + 1) (by omega) (by omega)
  have e:((i + 1:Nat):Int)=(i:Int) + 1:=by omega
  have p:=is_pure l
  have kk:=is_keys l
  have ln:=is_length l
  simp [b22,c22,p,kk,ln,hi,hi2,-indexAddrA,ix,w]
theorem bad (call sc) (k1:Nat) (l:List Int) (n:Int) (i:Nat) (x:Int) (h:l[i]? = some x) (hx:¬ x=0) (hl:l.length < 1000000) :
    aCode E call sc k1 1 fn22 b22 (cleanS 1 ((firstReg b22).bind fn22.head) (S l n (i:Int)))=some (.ret,⟨[(2,.sl true [] (some 0)),(3,.int .i64 11)],[]⟩):=by
  have hi:i < l.length:=(List.getElem?_eq_some_iff.1 h).1
  have hi2:(i:Int) < (l.length:Int):=by omega
  have ix:=atI false none l i x h
  have e:(x != 0)=true:=by simp [hx]
  have p:=is_pure l
  have kk:=is_keys l
  have ln:=is_length l
  simp [b22,c22,p,kk,ln,hi,hi2,-indexAddrA,ix,hx,e]
theorem fin (call sc) (k1:Nat) (l:List Int) (n:Int) :
    aCode E call sc k1 1 fn22 b22 (cleanS 1 ((firstReg b22).bind fn22.head) (S l n (l.length:Int)))=some (.exit 0,⟨[(4,.sl false (is l) none),(5,.int .i64 n),(6,.int .i64 (l.length:Int)),(41,.bool false)],[]⟩):=by
  have p:=is_pure l
  have kk:=is_keys l
  have ln:=is_length l
  simp [b22,c22,p,kk,ln]
theorem loop_ok (call sc) (k1 k:Nat) (l:List Int) (n:Nat) (hn:n ≤ l.length) (hz:∀ i,n ≤ i → i < l.length → l[i]? = some 0) (hl:l.length < 1000000) (hk:l.length < k) :
    aLoop (aCode E call sc k1 1 fn22 b22) (cleanS 1 ((firstReg b22).bind fn22.head)) k (S l (n:Int) (n:Int))=some (.exit 0,⟨[(4,.sl false (is l) none),(5,.int .i64 (n:Int)),(6,.int .i64 (l.length:Int)),(41,.bool false)],[]⟩):=by
  refine loopR (fun j => S l (n:Int) ((n + j:Nat):Int)) (l.length - n) rfl (fun j hj => ?_) ?_ (by simp) (by omega)
  · exact go call sc k1 l n (n + j) (hz _ (by omega) (by omega)) hl
  · have e:n + (l.length - n)=l.length:=by omega
    simp only [e]
    exact fin call sc k1 l n
theorem loop_bad (call sc) (k1 k:Nat) (l:List Int) (n j:Nat) (x:Int) (hj:l[n + j]? = some x) (hx:¬ x=0) (hz:∀ i,i < j → l[n + i]? = some 0) (hl:l.length < 1000000) (hk:l.length < k) :
    aLoop (aCode E call sc k1 1 fn22 b22) (cleanS 1 ((firstReg b22).bind fn22.head)) k (S l (n:Int) (n:Int))=some (.ret,⟨[(2,.sl true [] (some 0)),(3,.int .i64 11)],[]⟩):=by
  have hlt:n + j < l.length:=(List.getElem?_eq_some_iff.1 hj).1
  exact loopR (fun j => S l (n:Int) ((n + j:Nat):Int)) j rfl (fun i hi => go call sc k1 l n (n + i) (hz i hi) hl) (bad call sc k1 l n (n + j) x hj hx hl) (by simp) (by omega)
end T7
end
end
section
open Ab Go TabB T1 T2 T3 T4 T5 T6 T7
namespace T8
theorem get_nil (f c):Con E 1000 22 [.sl f [] c] (.tup [.sl true [] (some 0),.int .i64 11]):=by
  refine .of (g:=[]) rfl ?_
  rw [aCall_fn rfl (E_fn22) rfl (Nat.le_of_ble_eq_true rfl) rfl rfl,body_22,c22]
  simp [↓s_seq,↓s_reg,↓s_cond,↓s_cons,↓s_consG,s_nil,s_gf,s_wb,s_val,s_rgx,s_sqn,s_sqr,s_cdb,s_ret',s_finr,s_fin1,s_fix,s_clean,o_tmp,o_int,o_bool,o_nil,l_hit,l_miss,ol_nil,ol_cons,ol_some,x_move,x_assign,x_pick,pk_t,x_bin,bn_s,x_callB,x_conv,cvx,convA,frame0,binA,intOp,resL,resA,results1,sealA,AV.pure,AV.pureL,keepT,x_load,ldx,x_indexAddr,iax,newK,genOf,setK,lookK,writeC,readC,conts,TyI.mk1,indexAddrA,appendA,copyA,builtinA,AV.cells,AV.scal,gcH,Ty.isAgg]
theorem get_big (f c) (x:Int) (ys:List Int) (h:7 < x):Con E 1000 22 [.sl f (bs (x :: ys)) c] (.tup [.sl true [] (some 0),.int .i64 11]):=by
  refine .of (g:=[]) (by simp [AV.pureL,AV.pure]) ?_
  rw [aCall_fn rfl (E_fn22) (by simp [AV.pureL,AV.pure]) (Nat.le_of_ble_eq_true rfl) rfl rfl,body_22,c22]
  have e0:((ys.length:Int) + 1 == 0)=false:=by simp; omega
  have e1:(0:Int) < (ys.length:Int) + 1:=by omega
  have e2:¬ (ys.length:Int) + 1=0:=by omega
  simp [↓s_seq,↓s_reg,↓s_cond,↓s_cons,↓s_consG,s_nil,s_gt,s_gf,s_wb,s_val,s_rgx,s_sqn,s_sqr,s_cdb,s_ret',s_finr,s_fin1,s_fix,s_clean,o_tmp,o_int,o_bool,o_nil,l_hit,l_miss,ol_nil,ol_cons,ol_some,x_move,x_assign,x_pick,pk_t,pk_f,x_bin,bn_s,x_callB,x_conv,cvx,convA,frame0,binA,intOp,resL,resA,results1,sealA,AV.pure,AV.pureL,keepT,x_load,ldx,x_indexAddr,iax,newK,genOf,setK,lookK,writeC,readC,conts,TyI.mk1,indexAddrA,appendA,copyA,builtinA,AV.cells,AV.scal,gcH,Ty.isAgg,bs_cons,bs_length,h,e0,e1]
theorem get_short (f c) (x:Int) (h:0 < x) (h7:x ≤ 7):Con E 1000 22 [.sl f (bs [x]) c] (.tup [.sl true [] (some 0),.int .i64 11]):=by
  refine .of (g:=[]) (by simp [AV.pureL,AV.pure]) ?_
  rw [aCall_fn rfl (E_fn22) (by simp [AV.pureL,AV.pure]) (Nat.le_of_ble_eq_true rfl) rfl rfl,body_22,c22]
  have e7:¬ 7 < x:=by omega
  have w:=w64 x (by omega) (by omega)
  simp [↓s_seq,↓s_reg,↓s_cond,↓s_cons,↓s_consG,s_nil,s_gt,s_wb,s_val,s_rgx,s_sqn,s_sqr,s_cdb,s_ret',s_finr,s_fin1,s_fix,s_clean,o_tmp,o_int,o_nil,l_hit,l_miss,ol_nil,ol_cons,ol_some,x_move,x_assign,x_pick,pk_f,x_bin,bn_s,x_callB,x_conv,cvx,convA,frame0,binA,intOp,resL,resA,results1,sealA,AV.pure,AV.pureL,keepT,x_load,ldx,x_indexAddr,iax,newK,genOf,setK,lookK,writeC,readC,conts,TyI.mk1,indexAddrA,appendA,copyA,builtinA,AV.cells,AV.scal,gcH,Ty.isAgg,w_i64,bs_cons,bs_nil,h,e7,w]
theorem get_zero (f c):Con E 1000 22 [.sl f (bs [0]) c] (.tup [.sl true [] (some 0),.int .i64 0]):=by
  refine .of (g:=[]) rfl ?_
  rw [aCall_fn rfl (E_fn22) rfl (Nat.le_of_ble_eq_true rfl) rfl rfl,body_22,c22]
  have b:=fun f c => bits_nil f c
  simp only [bs_nil] at b
  simp [↓s_seq,↓s_reg,↓s_cond,↓s_block,↓s_cons,↓s_consG,s_nil,s_loop,s_round,s_lpe,firstReg,s_gt,s_wb,s_val,s_calls,s_cax,s_ret,s_rgx,s_sqn,s_sqe,s_cdb,s_bke,s_exit,s_ret',s_skip',s_finr,s_fin1,s_fix,s_clean,o_tmp,o_int,o_nil,l_hit,l_miss,ol_nil,ol_cons,ol_some,x_move,x_assign,x_pick,pk_f,x_bin,bn_s,x_callF,cl_no,x_callB,x_conv,cvx,convA,frame0,binA,intOp,resL,resA,results1,sealA,sealLW,AV.pure,AV.pureL,keepT,x_load,ldx,x_slice,slx,x_indexAddr,iax,newK,genOf,setK,lookK,writeC,readC,conts,TyI.mk1,sliceA,boundsA,boundsB,fitsA,numA,indexAddrA,appendA,copyA,builtinA,AV.cells,AV.scal,gcH,Ty.isAgg,w_i64,bs_cons,bs_nil,b]
theorem get_ok (f c) (x:Int) (ys:List Int) (hb:isB ys) (h0:0 ≤ x) (h7:x ≤ 7) (hy:ys ≠ []) (hl:ys.length ≤ 100) (n:Nat) (hn:(n:Int)=8 * (ys.length:Int) - x) (hz:∀ i,n ≤ i → i < (bits ys).length → (bits ys)[i]? = some 0) :
    Con E 1000 22 [.sl f (bs (x :: ys)) c] (.tup [.sl false (is ((bits ys).take n)) none,.int .i64 0]):=by
  refine .of (g:=[]) (by simp [AV.pureL,AV.pure]) ?_
  rw [aCall_fn rfl (E_fn22) (by simp [AV.pureL,AV.pure]) (Nat.le_of_ble_eq_true rfl) rfl rfl,body_22,c22]
  have hy1:0 < ys.length:=List.length_pos_iff.2 hy
  have bl:=bits_length ys
  have B:=fun f c => bits_con f c ys hb (by omega) hy1 500 (by omega)
  have L:=loop_ok (aCall E 999) (dcall (aRun E 999)) 999 999 (bits ys) n (by omega) hz (by omega) (by omega)
  simp [b22,c22,firstReg] at L
  have e0:((ys.length:Int) + 1 == 0)=false:=by simp; omega
  have e1:(0:Int) < (ys.length:Int) + 1:=by omega
  have e2:¬ (ys.length:Int) + 1=0:=by omega
  have e3:¬ 7 < x:=by omega
  have w:=w64 x (by omega) (by omega)
  have w1:=w64 (ys.length:Int) (by omega) (by omega)
  have w2:=w64 (8 * (ys.length:Int)) (by omega) (by omega)
  have e4:¬ 8 * (ys.length:Int) < x:=by omega
  have w3:=w64 (n:Int) (by omega) (by omega)
  have bl2:((bits ys).length:Int)=8 * (ys.length:Int):=by omega
  have e5:¬ 524288 < (n:Int):=by omega
  have e6:n ≤ (bits ys).length:=by omega
  have p:=is_pure (bits ys)
  have ln:=is_length (bits ys)
  have tk:(is (bits ys)).take n=is ((bits ys).take n):=by simp [is,List.map_take]
  obtain ⟨y0,g0⟩:∃ y,(bs ys)[0]? = some (.int .u8 y):=⟨ys[0],by rw [bs_get]; simp [hy1]⟩
  simp [↓s_seq,↓s_reg,↓s_cond,↓s_block,↓s_cons,↓s_consG,s_nil,s_loop,firstReg,s_gt,s_wb,s_val,s_calls,s_cax,s_ret,s_rgx,s_sqn,s_cdb,s_bke,s_ret',s_skip',s_finr,s_fin1,s_fix,s_clean,o_tmp,o_int,o_nil,l_hit,l_miss,ol_nil,ol_cons,ol_some,x_move,x_assign,x_pick,pk_f,x_bin,bn_s,x_callF,cl_no,x_callB,x_conv,cvx,convA,frame0,binA,intOp,resL,resA,results1,sealA,sealLW,AV.pure,AV.pureL,keepT,x_load,ldx,x_slice,slx,x_indexAddr,iax,newK,genOf,setK,lookK,writeC,readC,conts,TyI.mk1,sliceA,boundsA,boundsB,fitsA,numA,indexAddrA,appendA,copyA,builtinA,AV.cells,AV.scal,gcH,Ty.isAgg,bs_all,hy,g0,bs_cons,bs_length,e0,e1,e3,w,w1,w2,e4,w3,B,bl2,← hn,L,e5,e6,ln,tk]
theorem get_bad (f c) (x:Int) (ys:List Int) (hb:isB ys) (h0:0 ≤ x) (h7:x ≤ 7) (hy:ys ≠ []) (hl:ys.length ≤ 100) (n:Nat) (hn:(n:Int)=8 * (ys.length:Int) - x) (j:Nat) (y:Int) (hj:(bits ys)[n + j]? = some y) (hyj:¬ y=0) (hz:∀ i,i < j → (bits ys)[n + i]? = some 0) :
    Con E 1000 22 [.sl f (bs (x :: ys)) c] (.tup [.sl true [] (some 0),.int .i64 11]):=by
  refine .of (g:=[]) (by simp [AV.pureL,AV.pure]) ?_
  rw [aCall_fn rfl (E_fn22) (by simp [AV.pureL,AV.pure]) (Nat.le_of_ble_eq_true rfl) rfl rfl,body_22,c22]
  have hy1:0 < ys.length:=List.length_pos_iff.2 hy
  have bl:=bits_length ys
  have B:=fun f c => bits_con f c ys hb (by omega) hy1 500 (by omega)
  have L:=loop_bad (aCall E 999) (dcall (aRun E 999)) 999 999 (bits ys) n j y hj hyj hz (by omega) (by omega)
  simp [b22,c22,firstReg] at L
  have e0:((ys.length:Int) + 1 == 0)=false:=by simp; omega
  have e1:(0:Int) < (ys.length:Int) + 1:=by omega
  have e2:¬ (ys.length:Int) + 1=0:=by omega
  have e3:¬ 7 < x:=by omega
  have w:=w64 x (by omega) (by omega)
  have w1:=w64 (ys.length:Int) (by omega) (by omega)
  have w2:=w64 (8 * (ys.length:Int)) (by omega) (by omega)
  have e4:¬ 8 * (ys.length:Int) < x:=by omega
  have w3:=w64 (n:Int) (by omega) (by omega)
  have bl2:((bits ys).length:Int)=8 * (ys.length:Int):=by omega
  have e5:¬ 524288 < (n:Int):=by omega
  have e6:n ≤ (bits ys).length:=by omega
  have p:=is_pure (bits ys)
  have ln:=is_length (bits ys)
  have tk:(is (bits ys)).take n=is ((bits ys).take n):=by simp [is,List.map_take]
  obtain ⟨y0,g0⟩:∃ y,(bs ys)[0]? = some (.int .u8 y):=⟨ys[0],by rw [bs_get]; simp [hy1]⟩
  simp [↓s_seq,↓s_reg,↓s_cond,↓s_block,↓s_cons,↓s_consG,s_nil,s_loop,firstReg,s_gt,s_wb,s_val,s_calls,s_cax,s_ret,s_rgx,s_sqn,s_sqr,s_cdb,s_bkr,s_skip',s_finr,s_fin1,s_fix,s_clean,o_tmp,o_int,o_nil,l_hit,l_miss,ol_nil,ol_cons,ol_some,x_move,x_assign,x_pick,pk_f,x_bin,bn_s,x_callF,cl_no,x_callB,x_conv,cvx,convA,frame0,binA,intOp,resL,resA,results1,sealA,sealLW,AV.pure,AV.pureL,keepT,x_load,ldx,x_slice,slx,x_indexAddr,iax,newK,genOf,setK,lookK,writeC,readC,conts,TyI.mk1,sliceA,boundsA,boundsB,fitsA,numA,indexAddrA,appendA,copyA,builtinA,AV.cells,AV.scal,gcH,Ty.isAgg,bs_all,hy,g0,bs_cons,bs_length,e0,e1,e3,w,w1,w2,e4,w3,B,bl2,← hn,L,ln]
end T8
end
section
open Ab Go TabB
attribute [local simp ↓] s_seq s_reg s_regd s_cond s_block s_cons s_consG
attribute [local simp] s_nil s_loop s_round s_lpn s_lpe s_lpr firstReg s_gt s_gf s_wb s_wu s_val s_valN s_skip s_calls s_callP s_cax lookR flatR pureKs s_ret s_rgx s_sqn s_sqr s_sqe s_cdb s_bkn s_bkr s_bke s_exit s_ret' s_skip' s_finr s_finn s_fin1 s_fix s_clean s_gc0 o_tmp o_int o_bool o_nil o_str o_fn o_nil' l_hit l_miss l_nil ol_nil ol_cons ol_some x_move x_assign x_pick pk_t pk_f x_bin bn_s x_un x_extract x_callF cl_no x_callB x_callBF frzV x_conv cvx convA frame0 binA intOp resL resA results1 sealA sealLW AV.pure AV.pureL keepT x_alloc x_box bxx x_build bdx x_buildSlice bsx x_buildSliceF bsf x_load ldx x_store stx x_slice slx x_fieldAddr x_field x_index ixx x_indexAddr iax x_makeSlice msx x_nilCheck newK genOf setK lookK fillA writeL writeC readC conts TyI.mk1 sliceA boundsA boundsB fitsA numA indexAddrA fieldAddrA partA fieldA indexA appendA copyA builtinA AV.cells AV.scal chunk gcH reach keysT keepK inKs AV.keys AV.keysL Ty.isAgg eq1 eqL convA.go ltI w_u8 w_u32 w_u64 w_i64 w_fdiv w_tdiv w_tmod IntKind.bits unA
section
open Ab Go TabB T1 T2 T3
namespace T9
def and8 (a b:Int):Int:=IntKind.u8.wrap ((BitVec.ofInt 8 a &&& BitVec.ofInt 8 b).toNat:Nat)
theorem i_and (a b:Int):intOp .and .u8 a b=some (.int .u8 (and8 a b)):=rfl
theorem and8_mask (a:Int) (h0:0 ≤ a) (h1:a < 256) (k:Nat) (hk:k ≤ 7):and8 a ((2:Int) ^ k - 1)=a % 2 ^ k:=by
  obtain ⟨n,rfl⟩:=Int.eq_ofNat_of_zero_le h0
  have e2:((2:Int) ^ k - 1)=((2 ^ k - 1:Nat):Int):=by
    have h:k=0 ∨ k=1 ∨ k=2 ∨ k=3 ∨ k=4 ∨ k=5 ∨ k=6 ∨ k=7:=by omega
    rcases h with rfl | rfl | rfl | rfl | rfl | rfl | rfl | rfl <;> rfl
  have lt:2 ^ k - 1 < 256:=by
    have:2 ^ k ≤ 2 ^ 7:=Nat.pow_le_pow_right (by decide) hk
    omega
  unfold and8
  rw [e2,BitVec.ofInt_natCast,BitVec.ofInt_natCast,BitVec.toNat_and,BitVec.toNat_ofNat,BitVec.toNat_ofNat,Nat.mod_eq_of_lt (by omega),Nat.mod_eq_of_lt (by omega),Nat.and_two_pow_sub_one_eq_mod]
  rw [w_u8]
  have l2:n % 2 ^ k ≤ n:=Nat.mod_le ..
  rw [Int.emod_eq_of_lt (by omega) (by omega)]
  push_cast
  rfl
theorem get_nil (f c):Con E 100 31 [.sl f [] c] (.tup [.sl true [] (some 0),.int .i64 0,.int .i64 11]):=by
  refine .of (g:=[]) rfl ?_
  rw [aCall_fn rfl (E_fn31) rfl (Nat.le_of_ble_eq_true rfl) rfl rfl,body_31,c31]
  simp []
theorem get_big (f c) (x:Int) (ys:List Int) (h:7 < x):Con E 100 31 [.sl f (bs (x :: ys)) c] (.tup [.sl true [] (some 0),.int .i64 0,.int .i64 11]):=by
  refine .of (g:=[]) (by simp [AV.pureL,AV.pure,bs_pure]) ?_
  rw [aCall_fn rfl (E_fn31) (by simp [AV.pureL,AV.pure,bs_pure]) (Nat.le_of_ble_eq_true rfl) rfl rfl,body_31,c31]
  have e0:((ys.length:Int) + 1 == 0)=false:=by simp; omega
  have e1:(0:Int) < (ys.length:Int) + 1:=by omega
  have e2:¬ (ys.length:Int) + 1=0:=by omega
  simp [bs_cons,bs_pure,bs_length,h,e0,e1,e2]
theorem get_short (f c) (x:Int) (h:0 < x) (h7:x ≤ 7):Con E 100 31 [.sl f (bs [x]) c] (.tup [.sl true [] (some 0),.int .i64 0,.int .i64 11]):=by
  refine .of (g:=[]) (by simp [AV.pureL,AV.pure,bs_pure]) ?_
  rw [aCall_fn rfl (E_fn31) (by simp [AV.pureL,AV.pure,bs_pure]) (Nat.le_of_ble_eq_true rfl) rfl rfl,body_31,c31]
  have e7:¬ 7 < x:=by omega
  simp [bs_cons,bs_nil,h,e7]
theorem get_zero (f c):Con E 100 31 [.sl f (bs [0]) c] (.tup [.sl false [] (some 0),.int .i64 0,.int .i64 0]):=by
  refine .of (g:=[]) rfl ?_
  rw [aCall_fn rfl (E_fn31) rfl (Nat.le_of_ble_eq_true rfl) rfl rfl,body_31,c31]
  have b:=fun f c g d => joined f g c d [] [] (by decide) (by decide)
  simp only [bs_nil,List.nil_append,List.length_nil,Nat.add_zero] at b
  simp [bs_cons,bs_nil,b]
theorem get_ok (f c) (x z:Int) (ys:List Int) (h0:0 ≤ x) (h7:x ≤ 7) (hy:ys ≠ []) (hl:ys.length ≤ 100) (hz:ys[ys.length - 1]? = some z) (hzb:0 ≤ z ∧ z < 256) (hm:z % 2 ^ x.toNat=0) :
    Con E 100 31 [.sl f (bs (x :: ys)) c] (.tup [.sl false (bs ys) (some ys.length),.int .i64 (8 * (ys.length:Int) - x),.int .i64 0]):=by
  refine .of (g:=[]) (by simp [AV.pureL,AV.pure,bs_pure]) ?_
  rw [aCall_fn rfl (E_fn31) (by simp [AV.pureL,AV.pure,bs_pure]) (Nat.le_of_ble_eq_true rfl) rfl rfl,body_31,c31]
  have hy1:0 < ys.length:=List.length_pos_iff.2 hy
  have e0:((ys.length:Int) + 1 == 0)=false:=by simp; omega
  have e1:(0:Int) < (ys.length:Int) + 1:=by omega
  have e2:¬ (ys.length:Int) + 1=0:=by omega
  have e3:((ys.length:Int) + 1 == 1)=false:=by simp; omega
  have e4:¬ (ys.length:Int) + 1=1:=by omega
  have e5:(1:Int) < (ys.length:Int) + 1:=by omega
  have w1:=w64 (ys.length:Int) (by omega) (by omega)
  have w2:=w64 (8 * (ys.length:Int)) (by omega) (by omega)
  obtain ⟨y0,g0⟩:∃ y,(bs ys)[0]? = some (.int .u8 y):=⟨ys[0],by rw [bs_get]; simp [hy1]⟩
  have gl:(x :: ys)[ys.length]? = some z:=by
    obtain ⟨n,e⟩:∃ n,ys.length=n + 1:=⟨ys.length - 1,by omega⟩
    rw [e,List.getElem?_cons_succ,← hz]; congr 1; omega
  have ix:=at_ f c (x :: ys) ys.length z gl
  have i0:=at_ f c (x :: ys) 0 x rfl
  simp only [bs_cons] at ix i0
  have i0':∀ hp,indexAddrA E 22 (.sl f (AV.int .u8 x :: bs ys) c) (.int .i64 0) hp=some (.pel [.int .u8 x]):=i0
  have j1:=joined f true (c.map (fun q => q - 1)) (some 0) ys [] (by omega) (by decide)
  simp only [bs_nil,List.append_nil,List.length_nil,Nat.add_zero] at j1
  have hx:x=0 ∨ x=1 ∨ x=2 ∨ x=3 ∨ x=4 ∨ x=5 ∨ x=6 ∨ x=7:=by omega
  have zz:=hzb
  rcases hx with rfl | rfl | rfl | rfl | rfl | rfl | rfl | rfl
  · have am:=and8_mask z zz.1 zz.2 0 (by omega)
    rw [show (2:Int) ^ 0 - 1=0 from rfl] at am
    have hm2:z % 2 ^ 0=0:=hm
    rw [hm2] at am
    have w3:=w64 (8 * (ys.length:Int) - 0) (by omega) (by omega)
    have e6:¬ 524288 < 8 * (ys.length:Int) - 0:=by omega
    simp only [Int.sub_zero] at w3 e6
    simp [↓i_and,bs_all,hy,g0,bs_cons,bs_pure,bs_length,e0,e1,e2,e3,e4,e5,w1,w2,w3,e6,-indexAddrA,ix,i0',am,j1,↓s_regD,s_dyn0,s_rgy,barOf]
  · have am:=and8_mask z zz.1 zz.2 1 (by omega)
    rw [show (2:Int) ^ 1 - 1=1 from rfl] at am
    have hm2:z % 2 ^ 1=0:=hm
    rw [hm2] at am
    have w3:=w64 (8 * (ys.length:Int) - 1) (by omega) (by omega)
    have e6:¬ 524288 < 8 * (ys.length:Int) - 1:=by omega
    skip
    simp [↓i_and,bs_all,hy,g0,bs_cons,bs_pure,bs_length,e0,e1,e2,e3,e4,e5,w1,w2,w3,e6,-indexAddrA,ix,i0',am,j1,↓s_regD,s_dyn0,s_rgy,barOf]
  · have am:=and8_mask z zz.1 zz.2 2 (by omega)
    rw [show (2:Int) ^ 2 - 1=3 from rfl] at am
    have hm2:z % 2 ^ 2=0:=hm
    rw [hm2] at am
    have w3:=w64 (8 * (ys.length:Int) - 2) (by omega) (by omega)
    have e6:¬ 524288 < 8 * (ys.length:Int) - 2:=by omega
    skip
    simp [↓i_and,bs_all,hy,g0,bs_cons,bs_pure,bs_length,e0,e1,e2,e3,e4,e5,w1,w2,w3,e6,-indexAddrA,ix,i0',am,j1,↓s_regD,s_dyn0,s_rgy,barOf]
  · have am:=and8_mask z zz.1 zz.2 3 (by omega)
    rw [show (2:Int) ^ 3 - 1=7 from rfl] at am
    have hm2:z % 2 ^ 3=0:=hm
    rw [hm2] at am
    have w3:=w64 (8 * (ys.length:Int) - 3) (by omega) (by omega)
    have e6:¬ 524288 < 8 * (ys.length:Int) - 3:=by omega
    skip
    simp [↓i_and,bs_all,hy,g0,bs_cons,bs_pure,bs_length,e0,e1,e2,e3,e4,e5,w1,w2,w3,e6,-indexAddrA,ix,i0',am,j1,↓s_regD,s_dyn0,s_rgy,barOf]
  · have am:=and8_mask z zz.1 zz.2 4 (by omega)
    rw [show (2:Int) ^ 4 - 1=15 from rfl] at am
    have hm2:z % 2 ^ 4=0:=hm
    rw [hm2] at am
    have w3:=w64 (8 * (ys.length:Int) - 4) (by omega) (by omega)
    have e6:¬ 524288 < 8 * (ys.length:Int) - 4:=by omega
    skip
    simp [↓i_and,bs_all,hy,g0,bs_cons,bs_pure,bs_length,e0,e1,e2,e3,e4,e5,w1,w2,w3,e6,-indexAddrA,ix,i0',am,j1,↓s_regD,s_dyn0,s_rgy,barOf]
  · have am:=and8_mask z zz.1 zz.2 5 (by omega)
    rw [show (2:Int) ^ 5 - 1=31 from rfl] at am
    have hm2:z % 2 ^ 5=0:=hm
    rw [hm2] at am
    have w3:=w64 (8 * (ys.length:Int) - 5) (by omega) (by omega)
    have e6:¬ 524288 < 8 * (ys.length:Int) - 5:=by omega
    skip
    simp [↓i_and,bs_all,hy,g0,bs_cons,bs_pure,bs_length,e0,e1,e2,e3,e4,e5,w1,w2,w3,e6,-indexAddrA,ix,i0',am,j1,↓s_regD,s_dyn0,s_rgy,barOf]
  · have am:=and8_mask z zz.1 zz.2 6 (by omega)
    rw [show (2:Int) ^ 6 - 1=63 from rfl] at am
    have hm2:z % 2 ^ 6=0:=hm
    rw [hm2] at am
    have w3:=w64 (8 * (ys.length:Int) - 6) (by omega) (by omega)
    have e6:¬ 524288 < 8 * (ys.length:Int) - 6:=by omega
    skip
    simp [↓i_and,bs_all,hy,g0,bs_cons,bs_pure,bs_length,e0,e1,e2,e3,e4,e5,w1,w2,w3,e6,-indexAddrA,ix,i0',am,j1,↓s_regD,s_dyn0,s_rgy,barOf]
  · have am:=and8_mask z zz.1 zz.2 7 (by omega)
    rw [show (2:Int) ^ 7 - 1=127 from rfl] at am
    have hm2:z % 2 ^ 7=0:=hm
    rw [hm2] at am
    have w3:=w64 (8 * (ys.length:Int) - 7) (by omega) (by omega)
    have e6:¬ 524288 < 8 * (ys.length:Int) - 7:=by omega
    skip
    simp [↓i_and,bs_all,hy,g0,bs_cons,bs_pure,bs_length,e0,e1,e2,e3,e4,e5,w1,w2,w3,e6,-indexAddrA,ix,i0',am,j1,↓s_regD,s_dyn0,s_rgy,barOf]
theorem get_bad (f c) (x z:Int) (ys:List Int) (h0:0 ≤ x) (h7:x ≤ 7) (hy:ys ≠ []) (hl:ys.length ≤ 100) (hz:ys[ys.length - 1]? = some z) (hzb:0 ≤ z ∧ z < 256) (hm:¬ z % 2 ^ x.toNat=0) :
    Con E 100 31 [.sl f (bs (x :: ys)) c] (.tup [.sl true [] (some 0),.int .i64 0,.int .i64 11]):=by
  refine .of (g:=[]) (by simp [AV.pureL,AV.pure,bs_pure]) ?_
  rw [aCall_fn rfl (E_fn31) (by simp [AV.pureL,AV.pure,bs_pure]) (Nat.le_of_ble_eq_true rfl) rfl rfl,body_31,c31]
  have hy1:0 < ys.length:=List.length_pos_iff.2 hy
  have e0:((ys.length:Int) + 1 == 0)=false:=by simp; omega
  have e1:(0:Int) < (ys.length:Int) + 1:=by omega
  have e2:¬ (ys.length:Int) + 1=0:=by omega
  have e3:((ys.length:Int) + 1 == 1)=false:=by simp; omega
  have e4:¬ (ys.length:Int) + 1=1:=by omega
  have e5:(1:Int) < (ys.length:Int) + 1:=by omega
  have w1:=w64 (ys.length:Int) (by omega) (by omega)
  have w2:=w64 (8 * (ys.length:Int)) (by omega) (by omega)
  obtain ⟨y0,g0⟩:∃ y,(bs ys)[0]? = some (.int .u8 y):=⟨ys[0],by rw [bs_get]; simp [hy1]⟩
  have gl:(x :: ys)[ys.length]? = some z:=by
    obtain ⟨n,e⟩:∃ n,ys.length=n + 1:=⟨ys.length - 1,by omega⟩
    rw [e,List.getElem?_cons_succ,← hz]; congr 1; omega
  have ix:=at_ f c (x :: ys) ys.length z gl
  have i0:=at_ f c (x :: ys) 0 x rfl
  simp only [bs_cons] at ix i0
  have i0':∀ hp,indexAddrA E 22 (.sl f (AV.int .u8 x :: bs ys) c) (.int .i64 0) hp=some (.pel [.int .u8 x]):=i0
  have j1:=joined f true (c.map (fun q => q - 1)) (some 0) ys [] (by omega) (by decide)
  simp only [bs_nil,List.append_nil,List.length_nil,Nat.add_zero] at j1
  have hx:x=0 ∨ x=1 ∨ x=2 ∨ x=3 ∨ x=4 ∨ x=5 ∨ x=6 ∨ x=7:=by omega
  have zz:=hzb
  rcases hx with rfl | rfl | rfl | rfl | rfl | rfl | rfl | rfl
  · exact absurd (by simp) hm
  · have am:=and8_mask z zz.1 zz.2 1 (by omega)
    rw [show (2:Int) ^ 1 - 1=1 from rfl] at am
    have hm2:¬ z % 2 ^ 1=0:=hm
    have ne:(and8 z 1 != 0)=true:=by rw [am]; simpa using hm2
    have ne2:¬ and8 z 1=0:=by rw [am]; exact hm2
    simp [↓i_and,bs_all,hy,g0,bs_cons,bs_pure,bs_length,e0,e1,e2,e3,e4,e5,w1,w2,-indexAddrA,ix,i0',ne,ne2,↓s_regD,s_dyn0,s_rgy,barOf]
  · have am:=and8_mask z zz.1 zz.2 2 (by omega)
    rw [show (2:Int) ^ 2 - 1=3 from rfl] at am
    have hm2:¬ z % 2 ^ 2=0:=hm
    have ne:(and8 z 3 != 0)=true:=by rw [am]; simpa using hm2
    have ne2:¬ and8 z 3=0:=by rw [am]; exact hm2
    simp [↓i_and,bs_all,hy,g0,bs_cons,bs_pure,bs_length,e0,e1,e2,e3,e4,e5,w1,w2,-indexAddrA,ix,i0',ne,ne2,↓s_regD,s_dyn0,s_rgy,barOf]
  · have am:=and8_mask z zz.1 zz.2 3 (by omega)
    rw [show (2:Int) ^ 3 - 1=7 from rfl] at am
    have hm2:¬ z % 2 ^ 3=0:=hm
    have ne:(and8 z 7 != 0)=true:=by rw [am]; simpa using hm2
    have ne2:¬ and8 z 7=0:=by rw [am]; exact hm2
    simp [↓i_and,bs_all,hy,g0,bs_cons,bs_pure,bs_length,e0,e1,e2,e3,e4,e5,w1,w2,-indexAddrA,ix,i0',ne,ne2,↓s_regD,s_dyn0,s_rgy,barOf]
  · have am:=and8_mask z zz.1 zz.2 4 (by omega)
    rw [show (2:Int) ^ 4 - 1=15 from rfl] at am
    have hm2:¬ z % 2 ^ 4=0:=hm
    have ne:(and8 z 15 != 0)=true:=by rw [am]; simpa using hm2
    have ne2:¬ and8 z 15=0:=by rw [am]; exact hm2
    simp [↓i_and,bs_all,hy,g0,bs_cons,bs_pure,bs_length,e0,e1,e2,e3,e4,e5,w1,w2,-indexAddrA,ix,i0',ne,ne2,↓s_regD,s_dyn0,s_rgy,barOf]
  · have am:=and8_mask z zz.1 zz.2 5 (by omega)
    rw [show (2:Int) ^ 5 - 1=31 from rfl] at am
    have hm2:¬ z % 2 ^ 5=0:=hm
    have ne:(and8 z 31 != 0)=true:=by rw [am]; simpa using hm2
    have ne2:¬ and8 z 31=0:=by rw [am]; exact hm2
    simp [↓i_and,bs_all,hy,g0,bs_cons,bs_pure,bs_length,e0,e1,e2,e3,e4,e5,w1,w2,-indexAddrA,ix,i0',ne,ne2,↓s_regD,s_dyn0,s_rgy,barOf]
  · have am:=and8_mask z zz.1 zz.2 6 (by omega)
    rw [show (2:Int) ^ 6 - 1=63 from rfl] at am
    have hm2:¬ z % 2 ^ 6=0:=hm
    have ne:(and8 z 63 != 0)=true:=by rw [am]; simpa using hm2
    have ne2:¬ and8 z 63=0:=by rw [am]; exact hm2
    simp [↓i_and,bs_all,hy,g0,bs_cons,bs_pure,bs_length,e0,e1,e2,e3,e4,e5,w1,w2,-indexAddrA,ix,i0',ne,ne2,↓s_regD,s_dyn0,s_rgy,barOf]
  · have am:=and8_mask z zz.1 zz.2 7 (by omega)
    rw [show (2:Int) ^ 7 - 1=127 from rfl] at am
    have hm2:¬ z % 2 ^ 7=0:=hm
    have ne:(and8 z 127 != 0)=true:=by rw [am]; simpa using hm2
    have ne2:¬ and8 z 127=0:=by rw [am]; exact hm2
    simp [↓i_and,bs_all,hy,g0,bs_cons,bs_pure,bs_length,e0,e1,e2,e3,e4,e5,w1,w2,-indexAddrA,ix,i0',ne,ne2,↓s_regD,s_dyn0,s_rgy,barOf]
end T9
end
section
open Ab Go TabB T1 T2 T3
namespace T10
theorem same (f g d) (xs:List Int) (e:Int) (hb:isB xs):Con E 20 26 [.sl f (bs xs) (some xs.length),.int .i64 e,.sl g (bs xs) d,.int .i64 e] (.bool true):=by
  refine .of (g:=[]) (by simp [AV.pureL,AV.pure,bs_pure]) ?_
  rw [aCall_fn rfl (E_fn26) (by simp [AV.pureL,AV.pure,bs_pure]) (Nat.le_of_ble_eq_true rfl) rfl rfl,body_26,c26]
  simp [bs_pure,bs_cells,bs_go hb,bs_length]
theorem read (f c f1 f2 d) (cs xs:List Int) (n e:Int) (hb:isB xs) (g:Con E 100 31 [.sl f (bs cs) c] (.tup [.sl f1 (bs xs) (some xs.length),.int .i64 n,.int .i64 e])) :
    Con E 120 23 [.sl f (bs cs) c,.sl f2 (bs xs) d,.int .i64 n,.int .i64 e] (.bool true):=by
  refine .of (g:=[]) (by simp [AV.pureL,AV.pure,bs_pure]) ?_
  rw [aCall_fn rfl (E_fn23) (by simp [AV.pureL,AV.pure,bs_pure]) (Nat.le_of_ble_eq_true rfl) rfl rfl,body_23,c23]
  have s:=fun f g d => same f g d xs e hb
  simp [bs_pure,g,s]
end T10
end
section
open Ab Go TabB T1 T2 T3 T9
namespace T11
theorem unused (n x:Int) (h0:0 ≤ n) (h1:n < 1000000) (h:(8 - n % 8) % 8=x):Con E 5 47 [.int .i64 n] (.int .i64 x):=by
  refine .of (g:=[]) rfl ?_
  rw [aCall_fn rfl (E_fn47) rfl (Nat.le_of_ble_eq_true rfl) rfl rfl,body_47,c47]
  have q1:n.tmod 8=n % 8:=Int.tmod_eq_emod_of_nonneg h0
  have w1:=w64 (n % 8) (by omega) (by omega)
  have w2:=w64 (8 - n % 8) (by omega) (by omega)
  have q2:(8 - n % 8).tmod 8=(8 - n % 8) % 8:=Int.tmod_eq_emod_of_nonneg (by omega)
  have w3:=w64 ((8 - n % 8) % 8) (by omega) (by omega)
  subst h
  simp [q1,w1,w2,q2,w3]
theorem chk_ok (f c) (x z n:Int) (ys:List Int) (h0:0 ≤ x) (h7:x ≤ 7) (hy:ys ≠ []) (hl:ys.length ≤ 100) (hz:ys[ys.length - 1]? = some z) (hzb:0 ≤ z ∧ z < 256) (hm:z % 2 ^ x.toNat=0) (hn:n=8 * (ys.length:Int) - x) :
    Con E 50 36 [.sl f (bs ys) c,.int .i64 n] (.int .i64 0):=by
  refine .of (g:=[]) (by simp [AV.pureL,AV.pure,bs_pure]) ?_
  rw [aCall_fn rfl (E_fn36) (by simp [AV.pureL,AV.pure,bs_pure]) (Nat.le_of_ble_eq_true rfl) rfl rfl,body_36,c36]
  have hy1:0 < ys.length:=List.length_pos_iff.2 hy
  have n0:¬ n < 0:=by omega
  have n1:¬ 524288 < n:=by omega
  have n2:0 < n:=by omega
  have w1:=w64 (n + 7) (by omega) (by omega)
  have q1:(n + 7).tdiv 8=(n + 7) / 8:=Int.tdiv_eq_ediv_of_nonneg (by omega)
  have q2:(n + 7) / 8=(ys.length:Int):=by omega
  have w2:=w64 (ys.length:Int) (by omega) (by omega)
  have e1:((ys.length:Int) - 1)=((ys.length - 1:Nat):Int):=by omega
  have w3:=w64 ((ys.length:Int) - 1) (by omega) (by omega)
  have ix:=at_ f c ys (ys.length - 1) z hz
  rw [← e1] at ix
  have u:=unused n x (by omega) (by omega) (by omega)
  have hx:x=0 ∨ x=1 ∨ x=2 ∨ x=3 ∨ x=4 ∨ x=5 ∨ x=6 ∨ x=7:=by omega
  rcases hx with rfl | rfl | rfl | rfl | rfl | rfl | rfl | rfl
  · have am:=and8_mask z hzb.1 hzb.2 0 (by omega)
    rw [show (2:Int) ^ 0 - 1=0 from rfl] at am
    have hm2:z % 2 ^ 0=0:=hm
    rw [hm2] at am
    simp [↓i_and,bs_pure,bs_length,n0,n1,n2,w1,q1,q2,w2,w3,-indexAddrA,ix,u,am,↓s_regD,s_dyn0,s_rgy,barOf]
  · have am:=and8_mask z hzb.1 hzb.2 1 (by omega)
    rw [show (2:Int) ^ 1 - 1=1 from rfl] at am
    have hm2:z % 2 ^ 1=0:=hm
    rw [hm2] at am
    simp [↓i_and,bs_pure,bs_length,n0,n1,n2,w1,q1,q2,w2,w3,-indexAddrA,ix,u,am,↓s_regD,s_dyn0,s_rgy,barOf]
  · have am:=and8_mask z hzb.1 hzb.2 2 (by omega)
    rw [show (2:Int) ^ 2 - 1=3 from rfl] at am
    have hm2:z % 2 ^ 2=0:=hm
    rw [hm2] at am
    simp [↓i_and,bs_pure,bs_length,n0,n1,n2,w1,q1,q2,w2,w3,-indexAddrA,ix,u,am,↓s_regD,s_dyn0,s_rgy,barOf]
  · have am:=and8_mask z hzb.1 hzb.2 3 (by omega)
    rw [show (2:Int) ^ 3 - 1=7 from rfl] at am
    have hm2:z % 2 ^ 3=0:=hm
    rw [hm2] at am
    simp [↓i_and,bs_pure,bs_length,n0,n1,n2,w1,q1,q2,w2,w3,-indexAddrA,ix,u,am,↓s_regD,s_dyn0,s_rgy,barOf]
  · have am:=and8_mask z hzb.1 hzb.2 4 (by omega)
    rw [show (2:Int) ^ 4 - 1=15 from rfl] at am
    have hm2:z % 2 ^ 4=0:=hm
    rw [hm2] at am
    simp [↓i_and,bs_pure,bs_length,n0,n1,n2,w1,q1,q2,w2,w3,-indexAddrA,ix,u,am,↓s_regD,s_dyn0,s_rgy,barOf]
  · have am:=and8_mask z hzb.1 hzb.2 5 (by omega)
    rw [show (2:Int) ^ 5 - 1=31 from rfl] at am
    have hm2:z % 2 ^ 5=0:=hm
    rw [hm2] at am
    simp [↓i_and,bs_pure,bs_length,n0,n1,n2,w1,q1,q2,w2,w3,-indexAddrA,ix,u,am,↓s_regD,s_dyn0,s_rgy,barOf]
  · have am:=and8_mask z hzb.1 hzb.2 6 (by omega)
    rw [show (2:Int) ^ 6 - 1=63 from rfl] at am
    have hm2:z % 2 ^ 6=0:=hm
    rw [hm2] at am
    simp [↓i_and,bs_pure,bs_length,n0,n1,n2,w1,q1,q2,w2,w3,-indexAddrA,ix,u,am,↓s_regD,s_dyn0,s_rgy,barOf]
  · have am:=and8_mask z hzb.1 hzb.2 7 (by omega)
    rw [show (2:Int) ^ 7 - 1=127 from rfl] at am
    have hm2:z % 2 ^ 7=0:=hm
    rw [hm2] at am
    simp [↓i_and,bs_pure,bs_length,n0,n1,n2,w1,q1,q2,w2,w3,-indexAddrA,ix,u,am,↓s_regD,s_dyn0,s_rgy,barOf]
theorem put_ok (f c) (x z n:Int) (ys:List Int) (h0:0 ≤ x) (h7:x ≤ 7) (hy:ys ≠ []) (hl:ys.length ≤ 100) (hz:ys[ys.length - 1]? = some z) (hzb:0 ≤ z ∧ z < 256) (hm:z % 2 ^ x.toNat=0) (hn:n=8 * (ys.length:Int) - x) :
    Con E 100 25 [.sl f (bs ys) c,.int .i64 n] (.tup [.sl false (bs (x :: ys)) (some (ys.length + 1)),.int .i64 0]):=by
  refine .of (g:=[]) (by simp [AV.pureL,AV.pure,bs_pure]) ?_
  rw [aCall_fn rfl (E_fn25) (by simp [AV.pureL,AV.pure,bs_pure]) (Nat.le_of_ble_eq_true rfl) rfl rfl,body_25,c25]
  have hy1:0 < ys.length:=List.length_pos_iff.2 hy
  have k:=chk_ok f c x z n ys h0 h7 hy hl hz hzb hm hn
  have u:=unused n x (by omega) (by omega) (by omega)
  have w:x % 256=x:=Int.emod_eq_of_lt h0 (by omega)
  have j:=fun f c => joined f false (some 1) c [x] ys (by simp) (by omega)
  have e:1 + ys.length=ys.length + 1:=by omega
  have e2:[x] ++ ys=x :: ys:=rfl
  have j':∀ f c,Con E 10 46 [.sl false [.int .u8 x] (some 1),.sl f (bs ys) c] (.sl false (bs (x :: ys)) (some (ys.length + 1))):=fun f c => by
    have:=joined false f (some 1) c [x] ys (by simp) (by omega)
    rw [e2,List.length_singleton,e] at this
    exact this
  simp [bs_pure,k,u,w,j']
theorem put_nil (f c):Con E 100 25 [.sl f [] c,.int .i64 0] (.tup [.sl false (bs [0]) (some 1),.int .i64 0]):=by
  refine .of (g:=[]) rfl ?_
  rw [aCall_fn rfl (E_fn25) rfl (Nat.le_of_ble_eq_true rfl) rfl rfl,body_25,c25]
  have k:∀ f c,Con E 50 36 [.sl f [] c,.int .i64 0] (.int .i64 0):=by
    intro f c
    refine .of (g:=[]) rfl ?_
    rw [aCall_fn rfl (E_fn36) rfl (Nat.le_of_ble_eq_true rfl) rfl rfl,body_36,c36]
    simp [↓s_regD,s_dyn0,s_rgy,barOf]
  have u:=unused 0 0 (by omega) (by omega) (by omega)
  have j':∀ f c,Con E 10 46 [.sl false [.int .u8 0] (some 1),.sl f [] c] (.sl false (bs [0]) (some 1)):=fun f c => joined false f (some 1) c [0] [] (by simp) (by simp)
  simp [k,u,j',bs_pure]
end T11
end
end
