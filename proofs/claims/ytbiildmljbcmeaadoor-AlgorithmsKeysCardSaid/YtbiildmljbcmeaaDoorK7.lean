/- Own work, no conditions. -/
import Derived.Test.YtbiildmljbcmeaaDoorK5
import Derived.Test.YtbiildmljbcmeaaDoorOFn
set_option maxRecDepth 20000
set_option linter.unusedSimpArgs false
set_option linter.unusedVariables false
set_option maxHeartbeats 16000000
section
open Ab Go TabE Sp E34 F1 Rw F5 F6 F7 F8 F43 F47 AP A1 A2 A6 A4 A7 K1 K3 K5
namespace K6
theorem get_ (f c) (b:List Int) (hb:isB b) (hl:b.length ≤ 100):∃ (f1:Bool) (u:List Int) (c1:Option Nat) (j v:Int),Con E 100 84 [.sl f (bs b) c] (.tup [.sl f1 (bs u) c1,.int .i64 j,.int .i64 v]) ∧ (v=0 → isB u ∧ u.length ≤ 100 ∧ T34.ck u j=0 ∧ (8 * (u.length:Int) - j) :: u=b ∧ c1=some u.length):=by
  have bad:∀ g,Con E 100 84 [.sl f (bs b) c] (.tup [.sl g [] (some 0),.int .i64 0,.int .i64 11]) → ∃ (f1:Bool) (u:List Int) (c1:Option Nat) (j v:Int),Con E 100 84 [.sl f (bs b) c] (.tup [.sl f1 (bs u) c1,.int .i64 j,.int .i64 v]) ∧ (v=0 → isB u ∧ u.length ≤ 100 ∧ T34.ck u j=0 ∧ (8 * (u.length:Int) - j) :: u=b ∧ c1=some u.length):=fun g G => ⟨g,[],some 0,0,11,G,fun h => by cases h⟩
  match b,hb,hl with
  | [],_,_ => exact bad true (T9.get_nil f c)
  | x :: ys,hb,hl =>
    obtain ⟨⟨x0,x1⟩,hys⟩:=isB_cons.1 hb
    by_cases h7:7 < x
    · exact bad true (T9.get_big f c x ys h7)
    by_cases hy:ys=[]
    · subst hy
      by_cases hx:0 < x
      · exact bad true (T9.get_short f c x hx (by omega))
      · obtain rfl:x=0:=by omega
        exact ⟨false,[],some 0,0,0,T9.get_zero f c,fun _ => ⟨isB_nil,by simp,by decide,rfl,rfl⟩⟩
    have hy1:0 < ys.length:=List.length_pos_iff.2 hy
    have hl:ys.length ≤ 99:=by simp at hl; omega
    obtain ⟨z,hz⟩:∃ z,ys[ys.length - 1]? = some z:=⟨ys[ys.length - 1]'(by omega),List.getElem?_eq_getElem _⟩
    have hzb:=hys z (List.mem_of_getElem? hz)
    have gl:ys.getLast? = some z:=by rw [List.getLast?_eq_getElem?]; exact hz
    by_cases hm:z % 2 ^ x.toNat=0
    · refine ⟨false,ys,some ys.length,_,0,T9.get_ok f c x z ys x0 (by omega) hy (by omega) hz hzb hm,fun _ => ⟨hys,by omega,?_,?_,rfl⟩⟩
      · unfold T34.ck
        rw [if_neg (by omega),if_neg (by omega),if_neg (by omega),gl]
        simp only
        rw [show 8 * (ys.length:Int) - (8 * (ys.length:Int) - x)=x from by omega,if_pos hm]
      · rw [show 8 * (ys.length:Int) - (8 * (ys.length:Int) - x)=x from by omega]
    · exact bad true (T9.get_bad f c x z ys x0 (by omega) hy (by omega) hz hzb hm)
theorem bitsOf (y:El) (ht:y.c=0 ∧ y.k=false ∧ y.n=3) (hs:y.s=[]) (hb:isB y.b) (hl:y.b.length ≤ 100):∃ (f1:Bool) (u:List Int) (c1:Option Nat) (j v:Int),Con E 120 38 [y.av] (.tup [.sl f1 (bs u) c1,.int .i64 j,.int .i64 v]) ∧ (v=0 → isB u ∧ u.length ≤ 100 ∧ T34.ck u j=0 ∧ (8 * (u.length:Int) - j) :: u=y.b ∧ c1=some u.length):=by
  obtain ⟨f1,u,c1,j,v,G,hg⟩:=get_ y.fb y.cb y.b hb hl
  refine ⟨f1,u,c1,j,v,?_,hg⟩
  have o:=T36.of_get (c:=y.c) (k:=y.k) (n:=y.n) (fs:=y.fs) (cs:=y.cs) ht f1 u c1 j v G
  rw [El.av_eq,hs]
  exact o
structure ToldK (e:El) (n x0 x1 x2 x3 x4 x5 x6 x7 x8 x9 x10 x11 x12 x13 x14 x15:Int) (b:Bool) (p:El) (f:Bool) (u:List Int) (c:Option Nat) (m:Int) (q:List Int) (w:Int):Prop where
  of:∃ N,Con E N 34 [e.av] (.tup [kg n x0 x1 x2 x3 x4 x5 x6 x7 x8 x9 x10 x11 x12 x13 x14 x15 b p f u c m,fF q w])
  path:q.length ≤ 2
  bad:w ≠ 0 → kg n x0 x1 x2 x3 x4 x5 x6 x7 x8 x9 x10 x11 x12 x13 x14 x15 b p f u c m=zkg
  good:w=0 → q=[] ∧ ∃ y z:El,(tp [y,z] 2).ok ∧ (tp [y,z] 2).core=e.core ∧ (∃ N,Con E N 19 [ag n x0 x1 x2 x3 x4 x5 x6 x7 x8 x9 x10 x11 x12 x13 x14 x15 b p] (.tup [y.av,.int .i64 0])) ∧ (∃ N,Con E N 25 [.sl f (bs u) c,.int .i64 m] (.tup [z.av,.int .i64 0]))
inductive Way (e:El) (q:List Int) (w:Int):Prop
  | chk:(chk e.core 1 0 0).1=w → w ≠ 0 → q=[] → Way e q w
  | seq:(chk e.core 1 0 0).1=0 → sq e tS lK=.inr (w,q) → w ≠ 0 → Way e q w
  | two (x y:El) (n x0 x1 x2 x3 x4 x5 x6 x7 x8 x9 x10 x11 x12 x13 x14 x15:Int) (b:Bool) (p:El) (q1:List Int) (w1:Int) (f:Bool) (u:List Int) (c:Option Nat) (j v:Int):(chk e.core 1 0 0).1=0 → sq e tS lK=.inl [0,1] → e.s=[x,y] → (∃ N,Con E N 16 [x.av] (.tup [ag n x0 x1 x2 x3 x4 x5 x6 x7 x8 x9 x10 x11 x12 x13 x14 x15 b p,fR q1 w1])) → (∃ N,Con E N 38 [y.av] (.tup [.sl f (bs u) c,.int .i64 j,.int .i64 v])) → q1.length ≤ 1 → (w=if w1 ≠ 0 then w1 else v) → (q=if w1 ≠ 0 then 0 :: q1 else if v ≠ 0 then [1] else []) → (w1=0 → q1=[]) → Way e q w
theorem both (e:El) (he:e.ok) (wd:Wd e) (nn:E31.Nn e) (sh:E33.Sh e) (hl:e.s.length ≤ 1000) (h2:∀ x ∈ e.s,x.s.length ≤ 1000 ∧ x.b.length ≤ 100 ∧ ∀ y ∈ x.s,y.b.length ≤ 1000):∃ n x0 x1 x2 x3 x4 x5 x6 x7 x8 x9 x10 x11 x12 x13 x14 x15 b p f u c m q w,ToldK e n x0 x1 x2 x3 x4 x5 x6 x7 x8 x9 x10 x11 x12 x13 x14 x15 b p f u c m q w ∧ Way e q w:=by
  obtain ⟨N0,C0⟩:=E10.check e he
  obtain ⟨_,_,wds⟩:=wd
  obtain ⟨_,_,_,nns⟩:=nn
  obtain ⟨_,_,_,shs⟩:=sh
  have S:=fun k c (hk:70 ≤ k) => F8.sequence false c lK e tS (by omega) (by simp) k (by simp; omega) 0
  simp only [List.map,Fld.av,Fld.cells,tS] at S
  by_cases h0:(Sp.chk e.core 1 0 0).1=0
  case neg => exact ⟨0,0,0,0,0,0,0,0,0,0,0,0,0,0,0,0,0,false,z,true,[],some 0,0,[],_,⟨⟨_,K5.chk (N0 + 100) (by omega) e _ h0 (C0 _ (by omega) 0)⟩,by simp,fun _ => rfl,fun h => absurd h h0⟩,.chk rfl h0 rfl⟩
  have hv:=vld_of _ _ _ _ h0
  have h0':=h0
  rw [h0] at C0
  have hvs:∀ x ∈ e.s,vld x.core:=by rw [vld_eq] at hv; exact vlds_all.1 hv.2.2.2
  have hB:∀ x ∈ e.s,isB x.b:=fun x hx => (he.sub x hx).bb
  cases hq:sq e tS lK with
  | inr q =>
    obtain ⟨er,p⟩:=q
    rw [hq] at S
    have hbad:=F11.sq_bad hq
    exact ⟨0,0,0,0,0,0,0,0,0,0,0,0,0,0,0,0,0,false,z,true,[],some 0,0,p,er,⟨⟨_,K5.seq (N0 + 100) (by omega) e p er hbad.1 (C0 _ (by omega) 0) fun c => S _ c (by omega)⟩,by omega,fun _ => rfl,fun h => absurd h hbad.1⟩,.seq h0 hq hbad.1⟩
  | inl o =>
    rw [hq] at S
    obtain ⟨ht,x,y,hs,rfl,hx,hy⟩:=casesK e o hq
    have mx:x ∈ e.s:=by rw [hs]; simp
    have my:y ∈ e.s:=by rw [hs]; simp
    obtain ⟨a1,a2,a3⟩:=h2 x mx
    obtain ⟨b1,b2,b3⟩:=h2 y my
    have ys:y.s=[]:=by
      have:=hvs y my
      rw [vld_eq] at this
      have q:=this.2.2.1 hy.2.1
      cases hys:y.s with
      | nil => rfl
      | cons a r => rw [hys] at q; cases q
    obtain ⟨n,x0,x1,x2,x3,x4,x5,x6,x7,x8,x9,x10,x11,x12,x13,x14,x15,b,p,p',q1,w1,T⟩:=A4.both x (he.sub x mx) (wds x mx) (nns x mx) (shs x mx) a1 a3
    obtain ⟨⟨N1,A⟩,told,pok,pc,hp,hg,hb⟩:=T
    obtain ⟨f,u,c,j,v,G,gg⟩:=bitsOf y hy ys (hB y my) b2
    obtain ⟨k,hk⟩:∃ k,N0 + N1 + 200=k:=⟨_,rfl⟩
    have C:=C0 (k + 10) (by omega) 0
    have A':=A (k + 10) (by omega) 0
    have G':=G (k + 10) (by omega) 0
    by_cases hw:w1=0
    case neg =>
      refine ⟨0,0,0,0,0,0,0,0,0,0,0,0,0,0,0,0,0,false,z,true,[],some 0,0,0 :: q1,w1,⟨⟨k + 10 + 1,?_⟩,by simp; omega,fun _ => rfl,fun h => absurd h hw⟩,.two x y n x0 x1 x2 x3 x4 x5 x6 x7 x8 x9 x10 x11 x12 x13 x14 x15 b p' q1 w1 f u c j v h0' hq hs told ⟨_,G⟩ hp (by rw [if_pos hw]) (by rw [if_pos hw]) (fun h => absurd h hw)⟩
      rcases q1 with _ | ⟨j1,_ | ⟨j2,r⟩⟩
      · exact K5.badA0 k (by omega) e x y hs C (fun c => S _ c (by omega)) n x0 x1 x2 x3 x4 x5 x6 x7 x8 x9 x10 x11 x12 x13 x14 x15 b p w1 hw A'
      · exact K5.badA1 k (by omega) e x y hs C (fun c => S _ c (by omega)) n x0 x1 x2 x3 x4 x5 x6 x7 x8 x9 x10 x11 x12 x13 x14 x15 b p j1 w1 hw A'
      · simp at hp
    subst hw
    obtain ⟨rfl,n0,n1,hxs,hok,hz,bo,bc,wp,np,sp,c0⟩:=hg rfl
    by_cases hv0:v=0
    case neg =>
      exact ⟨0,0,0,0,0,0,0,0,0,0,0,0,0,0,0,0,0,false,z,true,[],some 0,0,[1],v,⟨⟨k + 10 + 1,K5.badB k (by omega) e x y hs C (fun c => S _ c (by omega)) n x0 x1 x2 x3 x4 x5 x6 x7 x8 x9 x10 x11 x12 x13 x14 x15 b p A' f u c j v hv0 G'⟩,by simp,fun _ => rfl,fun h => absurd h hv0⟩,.two x y n x0 x1 x2 x3 x4 x5 x6 x7 x8 x9 x10 x11 x12 x13 x14 x15 b p' [] 0 f u c j v h0' hq hs told ⟨_,G⟩ (by simp) (by rw [if_neg (by simp)]) (by rw [if_neg (by simp),if_pos hv0]) (fun _ => rfl)⟩
    subst hv0
    obtain ⟨ub,ul,uc,ue,ucap⟩:=gg rfl
    obtain ⟨N4,D,_⟩:=A7.elem n x0 x1 x2 x3 x4 x5 x6 x7 x8 x9 x10 x11 x12 x13 x14 x15 b p ⟨n0,n1⟩ hxs pok wp np sp bo
    have e0:er n [x0,x1,x2,x3,x4,x5,x6,x7,x8,x9,x10,x11,x12,x13,x14,x15] b p=0:=by
      unfold er
      rw [if_neg (by simp [hok]),if_neg (by
        rintro ⟨rfl,q⟩
        rw [hz rfl] at q
        exact absurd q (by decide)),bc]
      exact c0
    rw [e0] at D
    simp only [if_true] at D
    have EB:=K1.elem f c u j ub (by omega)
    rw [uc] at EB
    simp only [if_true] at EB
    have lbo:(lb ((8 * (u.length:Int) - j) :: u) (1 + u.length)).ok:=by
      rw [El.ok_eq]
      refine ⟨by simp [El.c],by simp [El.n],?_,?_,by simp [El.s],fun y hy => by cases hy⟩
      · simp only [El.b]; rw [ue]; exact hB y my
      · simp only [El.b]; rw [ue]; omega
    refine ⟨n,x0,x1,x2,x3,x4,x5,x6,x7,x8,x9,x10,x11,x12,x13,x14,x15,b,p,f,u,c,j,[],0,⟨⟨k + 10 + 1,K5.ok k (by omega) e x y hs C (fun c => S _ c (by omega)) n x0 x1 x2 x3 x4 x5 x6 x7 x8 x9 x10 x11 x12 x13 x14 x15 b p A' f u c j G'⟩,by simp,fun h => absurd rfl h,fun _ => ⟨rfl,bld n [x0,x1,x2,x3,x4,x5,x6,x7,x8,x9,x10,x11,x12,x13,x14,x15] b p,lb ((8 * (u.length:Int) - j) :: u) (1 + u.length),?_,?_,⟨N4,D⟩,⟨_,EB⟩⟩⟩,.two x y n x0 x1 x2 x3 x4 x5 x6 x7 x8 x9 x10 x11 x12 x13 x14 x15 b p' [] 0 f u c j 0 h0' hq hs told ⟨_,G⟩ (by simp) (by rw [if_neg (by simp)]) (by rw [if_neg (by simp),if_neg (by simp)]) (fun _ => rfl)⟩
    · refine tp_ok _ _ (fun t ht => ?_) (by simp)
      rcases List.mem_cons.1 ht with rfl | ht
      · exact bo
      · rw [List.mem_singleton.1 ht]; exact lbo
    · refine core_of e hv ht _ _ ?_
      have y1:(lb ((8 * (u.length:Int) - j) :: u) (1 + u.length)).core=y.core:=by
        rw [El.core_eq,El.core_eq y,hy.1,hy.2.1,hy.2.2,ys]
        rw [← ue]
        rfl
      rw [hs,El.cores_map,El.cores_map]
      simp only [List.map,bc,y1]
end K6
end
section
open Ab Go TabE
attribute [local simp ↓] s_seq s_reg s_regd s_cond s_block s_cons s_consG s_regD
attribute [local simp] s_nil s_loop s_round s_lpn s_lpe s_lpr firstReg s_gt s_gf s_wb s_wu s_val s_valN s_skip s_calls s_callP s_cax lookR flatR pureKs s_ret s_rgx s_sqn s_sqr s_sqe s_cdb s_bkn s_bkr s_bke s_exit s_ret' s_skip' s_finr s_finn s_fin1 s_fix s_clean s_gc0 o_tmp o_int o_bool o_nil o_str o_fn o_nil' l_hit l_miss l_nil ol_nil ol_cons ol_some x_move x_assign x_pick pk_t pk_f x_bin bn_s x_un x_extract x_callF cl_no x_callB x_callBF frzV x_conv cvx convA frame0 binA intOp resL resA results1 sealLW AV.pure AV.pureL keepT x_alloc x_box bxx x_build bdx x_buildSlice bsx x_buildSliceF bsf x_load ldx x_store stx x_slice slx x_fieldAddr x_field x_index ixx x_indexAddr iax x_makeSlice msx x_makeSliceF msf x_nilCheck newK genOf setK lookK fillA writeL writeC readC conts TyI.mk1 sliceA boundsA boundsB fitsA numA indexAddrA fieldAddrA partA fieldA indexA appendA copyA builtinA AV.cells chunk gcH reach keysT keepK inKs AV.keys AV.keysL Ty.isAgg eq1 eqL convA.go ltI w_u8 w_u32 w_u64 w_i64 w_fdiv w_tdiv w_tmod IntKind.bits unA sc_int sc_bool sc_str sc_sl sc_ref sc_ptr sc_pel sc_nilp sc_fn sc_nilf sc_if sc_nili sc_agg sc_tup sc_mem bs_pure bs_kl bs_length bs_cells bs_all sl_row sealRow sealY sl_int sl_bool sl_str sl_sl sl_nilp sl_nilf sl_nili sl_pel sl_agg sl_tup sl_fn sl_if nat_1 bs_cons bs_nil i_beq i_bne x_mkF x_mkI x_tassert x_panic s_pan s_sqp s_bkp s_finp s_fixp s_lpp s_rgp s_retp s_site s_stxN s_stxO x_callT clx El.avs_len s_dyn0 s_rgy barOf dynChk footL dynOK disjK keysOp opVals Op.operands
section
open Ab Go TabE Sp FW
namespace Q20
theorem op {run:RunF} {slot:Nat} {cs:List AV} {d l r l':Int} {own:Heap} (hp:AV.pureL cs=true)
    (hr:run 13 [.agg cs,.ptr (0,0,0) 0,.int .i64 d] [((0,0,0),bx [.int .i64 l])]=some (.ret (.int .i64 r),[((0,0,0),bx [.int .i64 l'])])) :
    opened [false,true,false] true run slot 13 [.agg cs,.ptr (0,0,0) 0,.int .i64 d] (((0,0,0),bx [.int .i64 l]) :: own)=some (.ret (.int .i64 r),((0,0,0),bx [.int .i64 l']) :: own):=by
  have e1:∀ h,sealM (sealA 20) [false,true,false] h [.agg cs,.ptr (0,0,0) 0,.int .i64 d]=some ([.agg cs,.ptr (0,0,0) 0,.int .i64 d],h):=fun h => by
    simp [sealM,sl_agg,sl_int,hp]
  have k1:AV.keysL cs=[]:=AV.keysL_pure _ hp
  have r1:∀ φ,AV.rnL φ cs=cs:=fun φ => rnL_pure cs hp
  unfold opened
  rw [e1]
  have e2:AV.keysL [.agg cs,.ptr (0,0,0) 0,.int .i64 d]=[(0,0,0)]:=by simp [AV.keysL,AV.keys,k1]
  simp only [e2]
  have e3:dd (reach (((0,0,0),bx [.int .i64 l]) :: own) 3 [(0,0,0)])=[(0,0,0)]:=by kernel_rfl
  rw [e3]
  unfold lendA
  have e4:lendH (((0,0,0),bx [.int .i64 l]) :: own) (inK [(0,0,0)]) [(0,0,0)]=some [((0,0,0),bx [.int .i64 l])]:=by kernel_rfl
  rw [e4]
  simp only [e2]
  rw [if_pos ⟨by kernel_rfl,by kernel_rfl⟩]
  have e5:AV.rnL (inK [(0,0,0)]) [.agg cs,.ptr (0,0,0) 0,.int .i64 d]=[.agg cs,.ptr (0,0,0) 0,.int .i64 d]:=by simp [AV.rnL,AV.rn,r1]; rfl
  rw [e5,hr]
  show backR [(0,0,0)] slot (((0,0,0),bx [.int .i64 l]) :: own) true (some (.ret (.int .i64 r),[((0,0,0),bx [.int .i64 l'])]))=some (.ret (.int .i64 r),((0,0,0),bx [.int .i64 l']) :: own)
  kernel_rfl
def b:Code:=lp c13 0
abbrev S (e:El) (d:Int) (i:Nat) (l:Int):St:=⟨[(1,.ptr (0,0,0) 0),(2,.int .i64 d),(3,.ptr (1,3,0) 0),(7,.int .i64 (i:Int))],[((0,0,0),bx [.int .i64 l]),((1,3,0),bx (ec e))]⟩
theorem go (q k1:Nat) (e x:El) (d:Int) (i:Nat) (l l' r:Int) (hr:r ≠ 0) (hx:e.s[i]? = some x) (le:e.s.length ≤ 1000) (d0:0 ≤ d) (d1:d ≤ 100)
    (R:∀ own slot,opened [false,true,false] true (aRun E q) slot 13 [.agg (ec x),.ptr (0,0,0) 0,.int .i64 (d + 1)] (((0,0,0),bx [.int .i64 l]) :: own)=some (.ret (.int .i64 r),((0,0,0),bx [.int .i64 l']) :: own)):rndO fn13 b q k1 (S e d i l)=some (.normal,S e d (i + 1) l'):=by
  have hi:i < e.s.length:=(List.getElem?_eq_some_iff.1 hx).1
  have ix:=El.at_ e.fs e.cs e.s i x hx
  have w:=w64' ((i:Int) + 1) (by omega) (by omega)
  have w2:=w64' (d + 1) (by omega) (by omega)
  simp [b,lp,lps,c13,-indexAddrA,ix,w,w2,hi,R,hr]
abbrev Out0 (l:Int):AExit × St:=(.ret,⟨[(6,.int .i64 0)],[((0,0,0),bx [.int .i64 l])]⟩)
theorem bad (q k1:Nat) (e x:El) (d:Int) (i:Nat) (l l':Int) (hx:e.s[i]? = some x) (le:e.s.length ≤ 1000) (d0:0 ≤ d) (d1:d ≤ 100)
    (R:∀ own slot,opened [false,true,false] true (aRun E q) slot 13 [.agg (ec x),.ptr (0,0,0) 0,.int .i64 (d + 1)] (((0,0,0),bx [.int .i64 l]) :: own)=some (.ret (.int .i64 0),((0,0,0),bx [.int .i64 l']) :: own)):rndO fn13 b q k1 (S e d i l)=some (Out0 l'):=by
  have hi:i < e.s.length:=(List.getElem?_eq_some_iff.1 hx).1
  have ix:=El.at_ e.fs e.cs e.s i x hx
  have w2:=w64' (d + 1) (by omega) (by omega)
  simp [b,lp,lps,c13,-indexAddrA,ix,w2,hi,R]
theorem last (q k1:Nat) (e:El) (d l:Int):rndO fn13 b q k1 (S e d e.s.length l)=some (.exit 0,⟨[(1,.ptr (0,0,0) 0),(2,.int .i64 d),(3,.ptr (1,3,0) 0),(7,.int .i64 (e.s.length:Int)),(38,.bool false)],(S e d e.s.length l).h⟩):=by
  simp [b,lp,lps,c13]
abbrev Lp (K:Nat):=aLoop (aCode E (site fn13 (aRun E K)) (dcall (aRun E K)) K 1 fn13 b) (cleanS 1 ((firstReg b).bind fn13.head))
def En (e:El) (d:Int) (p:Int × Int):AExit × St:=if p.1=0 then Out0 p.2 else (.exit 0,⟨[(1,.ptr (0,0,0) 0),(2,.int .i64 d),(3,.ptr (1,3,0) 0),(7,.int .i64 (e.s.length:Int)),(38,.bool false)],(S e d e.s.length p.2).h⟩)
abbrev Fc (K:Nat) (x:El):Prop:=∀ d l:Int,0 ≤ d → d ≤ 21 → -5 ≤ l → l ≤ 100000 → aRun E K 13 [.agg (ec x),.ptr (0,0,0) 0,.int .i64 d] [((0,0,0),bx [.int .i64 l])]=some (.ret (.int .i64 (few 100 40 x.core l d).1),[((0,0,0),bx [.int .i64 (few 100 40 x.core l d).2])])
theorem loop (K:Nat) (e:El) (le:e.s.length ≤ 1000) (d:Int) (d0:0 ≤ d) (d1:d ≤ 20) (R:∀ x ∈ e.s,Fc K x):∀ (r:List El) (i k:Nat) (l:Int),e.s.drop i=r → i ≤ e.s.length → 0 ≤ l → l ≤ 100000 → r.length < k →
    Lp K k (S e d i l)=some (En e d (fews 100 40 (El.cores r) l d))
  | [],i,k,l,h1,hi,l0,l1,hk => by
    obtain ⟨k,rfl⟩:∃ j,k=j + 1:=⟨k - 1,by omega⟩
    have q:=congrArg List.length h1
    rw [List.length_drop,List.length_nil] at q
    obtain rfl:i=e.s.length:=by omega
    exact aLoop_end (last K K e d l) (fun h => by cases h)
  | x :: r,i,k,l,h1,hi,l0,l1,hk => by
    obtain ⟨k,rfl⟩:∃ j,k=j + 1:=⟨k - 1,by omega⟩
    have q:=congrArg List.length h1
    rw [List.length_drop,List.length_cons] at q
    have hx:e.s[i]? = some x:=by
      have:=congrArg (fun l => l[0]?) h1
      simpa [List.getElem?_drop] using this
    have hd:e.s.drop (i + 1)=r:=by
      have:=congrArg List.tail h1
      simpa [List.tail_drop] using this
    have R':=R x (List.mem_of_getElem? hx) (d + 1) l (by omega) (by omega) (by omega) l1
    have O:=fun own slot => op (slot:=slot) (own:=own) (by rfl) R'
    have lo:=few_le x.core 100 40 l (d + 1)
    rw [El.cores]
    unfold fews
    by_cases h0:(few 100 40 x.core l (d + 1)).1=0
    · rw [if_pos h0]
      rw [h0] at O
      exact aLoop_end (bad K K e x d i l _ hx le d0 (by omega) O) (fun h => by cases h)
    · rw [if_neg h0]
      unfold Lp
      rw [aLoop_succ (go K K e x d i l _ _ h0 hx le d0 (by omega) O)]
      have lp':=few_ok x.core 100 40 l (d + 1) h0
      exact loop K e le d d0 d1 R r (i + 1) k _ hd (by omega) (by omega) (by omega) (by simp at hk; omega)
theorem few_con:∀ e:El,e.ok → ∃ N,∀ K,N ≤ K → Fc K e:=by
  refine El.ind fun e ih he => ?_
  obtain ⟨N,hN⟩:=unif (P:=fun (x:El) (n:Nat) => ∀ K,n ≤ K → Fc K x) (fun x n m h hm K hK => h K (by omega)) e.s (fun x hx => ih x hx (he.sub x hx))
  refine ⟨N + 40 + 60,fun K' hK' d l d0 d1 l0 l1 => ?_⟩
  obtain ⟨K,rfl⟩:∃ K,K'=K + 1:=⟨K' - 1,by omega⟩
  rw [aRun_fn rfl E_fn13 rfl (Nat.le_of_ble_eq_true rfl),body_13,c13]
  rw [El.core_eq e]
  unfold few
  have w:=w64' (l - 1) (by omega) (by omega)
  have lv:=El.avs_len e.s
  have bl:=bs_len e.b
  have cl:(El.cores e.s).length=e.s.length:=by rw [El.cores_map,List.length_map]
  rw [cl]
  by_cases h1:l - 1 < 0
  · rw [if_pos (.inl h1)]
    simp [-s_round,w,h1,lv,bl]
  by_cases h2:20 < d
  · rw [if_pos (.inr (.inl h2))]
    simp [-s_round,w,h1,h2,lv,bl]
  by_cases h3:100 < e.b.length
  · have h3':(100:Int) < e.b.length:=by omega
    rw [if_pos (.inr (.inr (.inl h3)))]
    simp [-s_round,w,h1,h2,h3,h3',lv,bl]
  by_cases h4:40 < e.s.length
  · have h4':(40:Int) < e.s.length:=by omega
    have h3':¬ (100:Int) < e.b.length:=by omega
    rw [if_pos (.inr (.inr (.inr h4)))]
    simp [-s_round,w,h1,h2,h3,h4,h3',h4',lv,bl]
  have h3':¬ (100:Int) < e.b.length:=by omega
  have h4':¬ (40:Int) < e.s.length:=by omega
  rw [if_neg (by rintro (h | h | h | h) <;> contradiction)]
  have L:=loop K e (by omega) d d0 (by omega) (fun x hx => hN x hx K (by omega)) e.s 0 K (l - 1) rfl (by omega) (by omega) (by omega) (by omega)
  simp [Lp,b,lp,lps,c13,firstReg,S,bx,ec] at L
  have pk:=fun h => (fews_ok (El.cores e.s) 100 40 (l - 1) d (by omega) (by omega) h).2.2.2
  generalize fews 100 40 (El.cores e.s) (l - 1) d=p at L pk ⊢
  obtain ⟨p1,p2⟩:=p
  simp only [En] at L
  by_cases hp:p1=0
  · rw [if_pos hp] at L
    subst hp
    simp [-s_round,w,h1,h2,h3,h4,h3',h4',lv,bl,L]
  · rw [if_neg hp] at L
    obtain rfl:=pk hp
    simp [-s_round,w,h1,h2,h3,h4,h3',h4',lv,bl,L,hp]
end Q20
end
section
open Ab Go TabE Sp E34 F1 Rw F5 F6 F7 F8 F43 F47 AP A1 A2 A3 A4 A6 A7
namespace A8
theorem lives:Con E 200 14 [] (.bool true):=.of (g:=[]) rfl (by kernel_rfl)
theorem opk {run:RunF} {slot:Nat} {cs:List AV} {d l r l':Int} {h:Heap} {key:Key} (hp:AV.pureL cs=true) (hk:lookK h key=some (bx [.int .i64 l]))
    (hr:run 13 [.agg cs,.ptr (0,0,0) 0,.int .i64 d] [((0,0,0),bx [.int .i64 l])]=some (.ret (.int .i64 r),[((0,0,0),bx [.int .i64 l'])])) :
    opened [false,true,false] true run slot 13 [.agg cs,.ptr key 0,.int .i64 d] h=some (.ret (.int .i64 r),setK h key (bx [.int .i64 l'])):=by
  have e1:sealM (sealA 20) [false,true,false] h [.agg cs,.ptr key 0,.int .i64 d]=some ([.agg cs,.ptr key 0,.int .i64 d],h):=by
    simp [sealM,sl_agg,sl_int,hp]
  have k1:AV.keysL cs=[]:=AV.keysL_pure _ hp
  have r1:∀ φ,AV.rnL φ cs=cs:=fun φ => rnL_pure cs hp
  unfold opened
  rw [e1]
  have e2:AV.keysL [.agg cs,.ptr key 0,.int .i64 d]=[key]:=by simp [AV.keysL,AV.keys,k1]
  simp only [e2]
  have e3:dd (reach h 3 [key])=[key]:=by simp [reach,hk,AV.keysL,AV.keys,dd]
  rw [e3]
  unfold lendA
  have e4:lendH h (inK [key]) [key]=some [((0,0,0),bx [.int .i64 l])]:=by simp [lendH,hk,inK,posK,AV.rnL,AV.rn]
  rw [e4]
  have e6:closedH h [key] [key]=true:=by simp [closedH,hk,AV.keysL,AV.keys]
  simp only [e2]
  rw [if_pos ⟨e6,by simp [inKs]⟩]
  have e5:AV.rnL (inK [key]) [.agg cs,.ptr key 0,.int .i64 d]=[.agg cs,.ptr (0,0,0) 0,.int .i64 d]:=by simp [AV.rnL,AV.rn,inK,posK,r1]
  rw [e5,hr]
  have e9:lentKs 1=[(0,0,0)]:=rfl
  have e7:dd (reach [((0,0,0),bx [AV.int .i64 l'])] 3 ([(0,0,0)] ++ []))=[(0,0,0)]:=by kernel_rfl
  have e10:closedH [((0,0,0),bx [AV.int .i64 l'])] [(0,0,0)] [(0,0,0)]=true:=by kernel_rfl
  have e8:AV.keysL [AV.int .i64 r]=[]:=rfl
  have e11:∀ g:Heap,sealA 20 g (AV.int .i64 r)=some (AV.int .i64 r,g):=fun g => rfl
  simp only [backR,if_true,e11,backV,Ab.back,List.length_singleton,e8,e9,e7,backA]
  rw [if_pos ⟨e10,by rfl,by rfl,by rfl⟩]
  simp [AV.rnL,AV.rn,outK,posK,putAll,lookK]
abbrev Fw (K:Nat) (e:El) (r l':Int):Prop:=aRun E K 13 [.agg (ec e),.ptr (0,0,0) 0,.int .i64 0] [((0,0,0),bx [.int .i64 40])]=some (.ret (.int .i64 r),[((0,0,0),bx [.int .i64 l'])])
theorem many (K:Nat) (hK:200 ≤ K) (e:El) (l':Int) (fw:Fw K e 0 l'):Con E (K + 1) 3 [e.av] (.bool true):=by
  have o:=fun slot h hk => opk (slot:=slot) (h:=h) (key:=(1,3,0)) (l:=40) (by rfl) hk fw
  have lv:=lives K hK 0
  refine con_ofO E_fn3 (by simp [AV.pureL,El.av_pure,AV.pure]) (Nat.le_of_ble_eq_true rfl) rfl (g:=[]) ?_
  rw [body_3,c3]
  simp [El.av_eq,o,lv]
theorem bad (K:Nat) (hK:200 ≤ K) (e:El) (r l':Int) (hr:r ≠ 0) (fw:Fw K e r l') (n x0 x1 x2 x3 x4 x5 x6 x7 x8 x9 x10 x11 x12 x13 x14 x15:Int) (b:Bool) (p p':El) (q:List Int) (w:Int) (hw:w ≠ 0) (hp:q.length ≤ 1)
    (A:∀ h,aCall E K 0 15 [e.av] h=some (.ret (.tup [ag n x0 x1 x2 x3 x4 x5 x6 x7 x8 x9 x10 x11 x12 x13 x14 x15 b p,fF q w]),h)) (B:∀ h,aCall E K 0 16 [e.av] h=some (.ret (.tup [ag n x0 x1 x2 x3 x4 x5 x6 x7 x8 x9 x10 x11 x12 x13 x14 x15 b p',fR q w]),h))
    (S:∀ h,aCall E K 0 18 [ag n x0 x1 x2 x3 x4 x5 x6 x7 x8 x9 x10 x11 x12 x13 x14 x15 b p,ag n x0 x1 x2 x3 x4 x5 x6 x7 x8 x9 x10 x11 x12 x13 x14 x15 b p'] h=some (.ret (.int .i64 1),h)):Con E (K + 1) 3 [e.av] (.bool true):=by
  have o:=fun slot h hk => opk (slot:=slot) (h:=h) (key:=(1,3,0)) (l:=40) (by rfl) hk fw
  have lv:=lives K hK 0
  have F:=fun f g d => A0.fault f g d q w (by omega) K (by omega) 0
  have np:=ns_pure q
  refine con_ofO E_fn3 (by simp [AV.pureL,El.av_pure,AV.pure]) (Nat.le_of_ble_eq_true rfl) rfl (g:=[]) ?_
  rw [body_3,c3]
  simp only [fF,fR,El.av_eq e] at A B
  simp [El.av_eq e,o,lv,A,B,S,F,hr,hw,np,El.avs_pure]
theorem good (K:Nat) (hK:200 ≤ K) (e:El) (r l':Int) (hr:r ≠ 0) (fw:Fw K e r l') (n x0 x1 x2 x3 x4 x5 x6 x7 x8 x9 x10 x11 x12 x13 x14 x15:Int) (b:Bool) (p p' y:El)
    (A:∀ h,aCall E K 0 15 [e.av] h=some (.ret (.tup [ag n x0 x1 x2 x3 x4 x5 x6 x7 x8 x9 x10 x11 x12 x13 x14 x15 b p,fF [] 0]),h)) (B:∀ h,aCall E K 0 16 [e.av] h=some (.ret (.tup [ag n x0 x1 x2 x3 x4 x5 x6 x7 x8 x9 x10 x11 x12 x13 x14 x15 b p',fR [] 0]),h))
    (S:∀ h,aCall E K 0 18 [ag n x0 x1 x2 x3 x4 x5 x6 x7 x8 x9 x10 x11 x12 x13 x14 x15 b p,ag n x0 x1 x2 x3 x4 x5 x6 x7 x8 x9 x10 x11 x12 x13 x14 x15 b p'] h=some (.ret (.int .i64 1),h)) (D:∀ h,aCall E K 0 19 [ag n x0 x1 x2 x3 x4 x5 x6 x7 x8 x9 x10 x11 x12 x13 x14 x15 b p] h=some (.ret (.tup [y.av,.int .i64 0]),h))
    (T:∀ h,aCall E K 0 20 [y.av,e.av] h=some (.ret (.int .i64 1),h)):Con E (K + 1) 3 [e.av] (.bool true):=by
  have o:=fun slot h hk => opk (slot:=slot) (h:=h) (key:=(1,3,0)) (l:=40) (by rfl) hk fw
  have lv:=lives K hK 0
  have F:=fun f g d => A0.fault f g d [] 0 (by simp) K (by simp; omega) 0
  refine con_ofO E_fn3 (by simp [AV.pureL,El.av_pure,AV.pure]) (Nat.le_of_ble_eq_true rfl) rfl (g:=[]) ?_
  rw [body_3,c3]
  simp only [fF,fR,El.av_eq e,El.av_eq y] at A B D T
  simp at A B F
  simp [El.av_eq e,El.av_eq y,o,lv,A,B,S,D,T,F,hr,El.avs_pure]
theorem fe_wd:∀ e:El,FW.Fe 100 40 e → Wd e:=by
  refine El.ind fun e ih h => ?_
  obtain ⟨_,h1,h2,h3⟩:=h
  exact .mk e (by omega) fun x hx => ih x hx (h3 x hx)
theorem fe_sh:∀ e:El,FW.Fe 100 40 e → E33.Sh e:=by
  refine El.ind fun e ih h => ?_
  obtain ⟨_,h1,h2,h3⟩:=h
  exact .mk e (by omega) (by omega) fun x hx => ih x hx (h3 x hx)
theorem law (e:El) (he:e.ok) (nn:E31.Nn e):∃ N,Con E N 3 [e.av] (.bool true):=by
  obtain ⟨Nf,few⟩:=Q20.few_con e he
  by_cases hq:(FW.few 100 40 e.core 40 0).1=0
  · have F:=few (Nf + 200) (by omega) 0 40 (by omega) (by omega) (by omega) (by omega)
    rw [hq] at F
    exact ⟨Nf + 200 + 1,many (Nf + 200) (by omega) e _ F⟩
  have fe:=FW.few_fe 100 40 e 40 0 hq
  have wd:=fe_wd e fe
  have sh:=fe_sh e fe
  obtain ⟨_,b1,s1,sub⟩:=fe
  obtain ⟨n,x0,x1,x2,x3,x4,x5,x6,x7,x8,x9,x10,x11,x12,x13,x14,x15,b,p,p',q,w,T⟩:=A4.both e he wd nn sh (by omega) (fun x hx => by obtain ⟨_,q,_,_⟩:=sub x hx; omega)
  obtain ⟨⟨N1,A⟩,⟨N2,B⟩,pok,pc,hp,hg,hb⟩:=T
  obtain ⟨N3,S0⟩:=F1.same p p' pok pc
  by_cases hw:w=0
  · subst hw
    obtain ⟨rfl,n0,n1,hx,hok,hz,bo,bc,wp,np,sp,c0⟩:=hg rfl
    obtain ⟨N4,D,_⟩:=A7.elem n x0 x1 x2 x3 x4 x5 x6 x7 x8 x9 x10 x11 x12 x13 x14 x15 b p ⟨n0,n1⟩ hx pok wp np sp bo
    obtain ⟨N5,T⟩:=F1.same (bld n [x0,x1,x2,x3,x4,x5,x6,x7,x8,x9,x10,x11,x12,x13,x14,x15] b p) e bo bc
    have e0:er n [x0,x1,x2,x3,x4,x5,x6,x7,x8,x9,x10,x11,x12,x13,x14,x15] b p=0:=by
      unfold er
      rw [if_neg (by simp [hok]),if_neg (by
        rintro ⟨rfl,q⟩
        rw [hz rfl] at q
        exact absurd q (by decide)),bc]
      exact c0
    rw [e0] at D
    simp only [if_true] at D
    obtain ⟨K,hK⟩:∃ K,Nf + N1 + N2 + N3 + N4 + N5 + 300=K:=⟨_,rfl⟩
    have F:=few K (by omega) 0 40 (by omega) (by omega) (by omega) (by omega)
    exact ⟨_,good K (by omega) e _ _ hq F n x0 x1 x2 x3 x4 x5 x6 x7 x8 x9 x10 x11 x12 x13 x14 x15 b p p' _ (A _ (by omega) 0) (B _ (by omega) 0) (A4.same (N3 + 100) (by omega) n x0 x1 x2 x3 x4 x5 x6 x7 x8 x9 x10 x11 x12 x13 x14 x15 b p p' 1 (S0 _ (by omega) 0) K (by omega) 0) (D _ (by omega) 0) (T _ (by omega) 0)⟩
  · obtain ⟨K,hK⟩:∃ K,Nf + N1 + N2 + N3 + 300=K:=⟨_,rfl⟩
    have F:=few K (by omega) 0 40 (by omega) (by omega) (by omega) (by omega)
    exact ⟨_,bad K (by omega) e _ _ hq F n x0 x1 x2 x3 x4 x5 x6 x7 x8 x9 x10 x11 x12 x13 x14 x15 b p p' q w hw hp (A _ (by omega) 0) (B _ (by omega) 0) (A4.same (N3 + 100) (by omega) n x0 x1 x2 x3 x4 x5 x6 x7 x8 x9 x10 x11 x12 x13 x14 x15 b p p' 1 (S0 _ (by omega) 0) K (by omega) 0)⟩
end A8
end
end
section
open Ab Go TabE Sp E34 F1 Rw F5 F6 F7 F8 F43 F47 AP A1 A2 A6 A3 A4 A7 A8 K1 K3 K5 K6
namespace K7
theorem sk0:Con E 100 33 [zkg,zkg] (.bool true):=.of (g:=[]) rfl (by kernel_rfl)
theorem bitT:Con E 5 37 [] (.agg [.int .u8 0,.bool false,.int .u32 3]):=.of (g:=[]) rfl (by kernel_rfl)
abbrev SqR (K:Nat) (e:El) (v:AV):Prop:=∀ c h,aCall E K 0 36 [e.av,.agg [.int .u8 0,.bool true,.int .u32 16],.sl false [.agg [.int .u8 0,.bool true,.int .u32 16,.bool false,.bool false],.agg [.int .u8 0,.bool false,.int .u32 3,.bool false,.bool false]] c] h=some (.ret v,h)
abbrev Ko (K:Nat) (e:El) (v:AV) (q:List Int) (w:Int):Prop:=∀ h,aCall E K 0 34 [e.av] h=some (.ret (.tup [v,fF q w]),h)
theorem many (K:Nat) (hK:200 ≤ K) (e:El) (l':Int) (fw:Fw K e 0 l'):Con E (K + 1) 6 [e.av] (.bool true):=by
  have o:=fun slot h hk => A8.opk (slot:=slot) (h:=h) (key:=(1,3,0)) (l:=40) (by rfl) hk fw
  have lv:=A8.lives K hK 0
  refine con_ofO E_fn6 (by simp [AV.pureL,El.av_pure]) (Nat.le_of_ble_eq_true rfl) rfl (g:=[]) ?_
  rw [body_6,c6]
  simp [El.av_eq,↓s_seq,↓s_reg,↓s_cond,↓s_cons,s_nil,s_val,s_skip,s_cax,s_ret,s_rgx,s_sqn,s_sqr,s_cdb,s_ret',s_finr,s_fin1,s_fix,s_clean,o_tmp,o_int,o_bool,l_hit,l_miss,ol_nil,ol_cons,ol_some,x_assign,x_bin,bn_s,x_callF,cl_no,frame0,binA,intOp,resL,resA,results1,sealLW,AV.pure,AV.pureL,keepT,x_alloc,x_box,bxx,x_load,ldx,x_store,stx,newK,genOf,setK,lookK,writeL,writeC,readC,TyI.mk1,AV.cells,gcH,reach,keysT,keepK,inKs,AV.keys,AV.keysL,Ty.isAgg,sc_int,sc_bool,sc_sl,sl_bool,s_site,s_stxN,s_stxO,o,lv]
theorem chk (K:Nat) (hK:200 ≤ K) (e:El) (r l':Int) (hr:r ≠ 0) (fw:Fw K e r l') (w:Int) (hw:w ≠ 0) (A:Ko K e zkg [] w) (C:Ck K e w):Con E (K + 1) 6 [e.av] (.bool true):=by
  have o:=fun slot h hk => A8.opk (slot:=slot) (h:=h) (key:=(1,3,0)) (l:=40) (by rfl) hk fw
  have lv:=A8.lives K hK 0
  have s0:=sk0 K (by omega) 0
  have t0:=A3.seqT K (by omega)
  have t2:=bitT K (by omega) 0
  have F:=fun f g d => A0.fault f g d [] w (by simp) K (by simp; omega) 0
  have F0:=rnil w (-1) (by omega) K (by omega) 0
  unfold Ck at C; unfold Ko at A
  refine con_ofO E_fn6 (by simp [AV.pureL,El.av_pure]) (Nat.le_of_ble_eq_true rfl) rfl (g:=[]) ?_
  rw [body_6,c6]
  simp only [fF,El.av_eq e] at A C
  simp at A F F0
  simp [El.av_eq e,↓s_seq,↓s_reg,↓s_cond,↓s_cons,↓s_consG,s_nil,s_gt,s_wb,s_val,s_skip,s_cax,s_ret,s_rgx,s_sqn,s_sqr,s_cdb,s_ret',s_skip',s_finr,s_fin1,s_fix,s_clean,o_tmp,o_int,o_bool,l_hit,l_miss,ol_nil,ol_cons,ol_some,x_move,x_assign,x_pick,pk_t,x_bin,bn_s,x_extract,x_callF,cl_no,frame0,binA,intOp,resL,resA,results1,sealLW,AV.pure,AV.pureL,keepT,x_alloc,x_box,bxx,x_build,bdx,x_load,ldx,x_store,stx,x_fieldAddr,newK,genOf,setK,lookK,fillA,writeL,writeC,readC,TyI.mk1,fieldAddrA,AV.cells,gcH,reach,keysT,keepK,inKs,AV.keys,AV.keysL,Ty.isAgg,sc_int,sc_bool,sc_sl,sl_int,sl_bool,sl_agg,i_beq,i_bne,s_site,s_stxN,s_stxO,o,lv,s0,C,A,F,F0,hr,hw]
theorem seq (K:Nat) (hK:200 ≤ K) (e:El) (r l':Int) (hr:r ≠ 0) (fw:Fw K e r l') (q:List Int) (w:Int) (hq:q.length ≤ 1) (hw:w ≠ 0) (A:Ko K e zkg q w) (C:Ck K e 0) (S:SqR K e (.tup [.sl true [] (some 0),fR q w])):Con E (K + 1) 6 [e.av] (.bool true):=by
  have o:=fun slot h hk => A8.opk (slot:=slot) (h:=h) (key:=(1,3,0)) (l:=40) (by rfl) hk fw
  have lv:=A8.lives K hK 0
  have s0:=sk0 K (by omega) 0
  have t0:=A3.seqT K (by omega)
  have t2:=bitT K (by omega) 0
  have F:=fun f g d => A0.fault f g d q w (by omega) K (by omega) 0
  have np:=ns_pure q
  unfold Ck at C; unfold Ko at A; unfold SqR at S
  refine con_ofO E_fn6 (by simp [AV.pureL,El.av_pure]) (Nat.le_of_ble_eq_true rfl) rfl (g:=[]) ?_
  rw [body_6,c6]
  simp only [fF,fR,El.av_eq e] at A C S
  simp [El.av_eq e,↓s_seq,↓s_reg,↓s_cond,↓s_cons,↓s_consG,s_nil,s_gt,s_wb,s_val,s_skip,s_callP,s_cax,s_ret,s_rgx,s_sqn,s_sqr,s_cdb,s_ret',s_skip',s_finr,s_fin1,s_fix,s_clean,o_tmp,o_int,o_bool,l_hit,l_miss,ol_nil,ol_cons,ol_some,x_move,x_assign,x_pick,pk_t,x_bin,bn_s,x_extract,x_callF,cl_no,frame0,binA,intOp,resL,resA,results1,sealLW,AV.pure,AV.pureL,keepT,x_alloc,x_box,bxx,x_build,bdx,x_buildSliceF,bsf,x_load,ldx,x_store,stx,x_fieldAddr,newK,genOf,setK,lookK,fillA,writeL,writeC,readC,TyI.mk1,fieldAddrA,AV.cells,chunk,gcH,reach,keysT,keepK,inKs,AV.keys,AV.keysL,Ty.isAgg,sc_int,sc_bool,sc_sl,sl_bool,sl_agg,i_beq,i_bne,s_site,s_stxN,s_stxO,↓s_regD,s_rgy,barOf,dynChk,o,lv,s0,t0,t2,C,A,F,S,hr,hw]
theorem badA0 (K:Nat) (hK:200 ≤ K) (e x y:El) (hs:e.s=[x,y]) (r l':Int) (hr:r ≠ 0) (fw:Fw K e r l') (C:Ck K e 0) (S:SqR K e (.tup [.sl false [.int .i64 0,.int .i64 1] none,fR [] 0])) (n x0 x1 x2 x3 x4 x5 x6 x7 x8 x9 x10 x11 x12 x13 x14 x15:Int) (b:Bool) (p:El) (f:Bool) (u:List Int) (c:Option Nat) (j:Int) (w v:Int) (hw:w ≠ 0) (A:Ko K e zkg [0] w) (T:∀ h,aCall E K 0 16 [x.av] h=some (.ret (.tup [ag n x0 x1 x2 x3 x4 x5 x6 x7 x8 x9 x10 x11 x12 x13 x14 x15 b p,fR [] w]),h)) (B:∀ h,aCall E K 0 38 [y.av] h=some (.ret (.tup [.sl f (bs u) c,.int .i64 j,.int .i64 v]),h)):Con E (K + 1) 6 [e.av] (.bool true):=by
  have o:=fun slot h hk => A8.opk (slot:=slot) (h:=h) (key:=(1,3,0)) (l:=40) (by rfl) hk fw
  have lv:=A8.lives K hK 0
  have s0:=sk0 K (by omega) 0
  have t0:=A3.seqT K (by omega)
  have t2:=bitT K (by omega) 0
  have F:=fun f g d => A0.fault f g d [0] w (by simp) K (by simp; omega) 0
  have x0:=El.at_ e.fs e.cs [x,y] 0 x rfl
  have x1:=El.at_ e.fs e.cs [x,y] 1 y rfl
  simp [El.avs] at x0 x1
  unfold Ck at C; unfold Ko at A; unfold SqR at S
  rw [El.av_eq x] at T
  rw [El.av_eq y] at B
  rw [El.av_eq e,hs] at C S A
  unfold ec at o
  rw [hs] at o
  refine con_ofO E_fn6 (by simp [AV.pureL,El.av_pure]) (Nat.le_of_ble_eq_true rfl) rfl (g:=[]) ?_
  rw [body_6,c6]
  rw [El.av_eq e,hs]
  simp only [fF,fR] at A S T
  simp [El.avs] at A C S F T o
  simp [↓s_seq,↓s_reg,↓s_cond,↓s_cons,↓s_consG,s_nil,s_gt,s_wb,s_val,s_skip,s_callP,s_cax,s_ret,s_rgx,s_sqn,s_sqr,s_cdb,s_ret',s_skip',s_finr,s_fin1,s_fix,s_clean,o_tmp,o_int,o_bool,l_hit,l_miss,ol_nil,ol_cons,ol_some,x_move,x_assign,x_pick,pk_t,x_bin,bn_s,x_extract,x_callF,cl_no,x_callB,frame0,binA,intOp,resL,resA,results1,sealLW,AV.pure,AV.pureL,keepT,x_alloc,x_box,bxx,x_build,bdx,x_buildSlice,bsx,x_buildSliceF,bsf,x_load,ldx,x_store,stx,x_fieldAddr,x_indexAddr,iax,newK,genOf,setK,lookK,fillA,writeL,writeC,readC,conts,TyI.mk1,fieldAddrA,appendA,copyA,builtinA,AV.cells,chunk,gcH,reach,keysT,keepK,inKs,AV.keys,AV.keysL,Ty.isAgg,sc_int,sc_bool,sc_sl,sc_ref,sl_row,sealRow,sealY,sl_int,sl_bool,sl_agg,i_beq,i_bne,s_site,s_stxN,s_stxO,↓s_regD,s_rgy,barOf,dynChk,footL,dynOK,disjK,keysOp,opVals,Op.operands,Call.operands,o,lv,s0,t0,t2,C,A,F,S,T,B,hw,hr,x0,x1,El.avs]
theorem badA1 (K:Nat) (hK:200 ≤ K) (e x y:El) (hs:e.s=[x,y]) (r l':Int) (hr:r ≠ 0) (fw:Fw K e r l') (C:Ck K e 0) (S:SqR K e (.tup [.sl false [.int .i64 0,.int .i64 1] none,fR [] 0])) (n x0 x1 x2 x3 x4 x5 x6 x7 x8 x9 x10 x11 x12 x13 x14 x15:Int) (b:Bool) (p:El) (f:Bool) (u:List Int) (c:Option Nat) (j:Int) (i w v:Int) (hw:w ≠ 0) (A:Ko K e zkg [0,i] w) (T:∀ h,aCall E K 0 16 [x.av] h=some (.ret (.tup [ag n x0 x1 x2 x3 x4 x5 x6 x7 x8 x9 x10 x11 x12 x13 x14 x15 b p,fR [i] w]),h)) (B:∀ h,aCall E K 0 38 [y.av] h=some (.ret (.tup [.sl f (bs u) c,.int .i64 j,.int .i64 v]),h)):Con E (K + 1) 6 [e.av] (.bool true):=by
  have o:=fun slot h hk => A8.opk (slot:=slot) (h:=h) (key:=(1,3,0)) (l:=40) (by rfl) hk fw
  have lv:=A8.lives K hK 0
  have s0:=sk0 K (by omega) 0
  have t0:=A3.seqT K (by omega)
  have t2:=bitT K (by omega) 0
  have F:=fun f g d => A0.fault f g d [0,i] w (by simp) K (by simp; omega) 0
  have x0:=El.at_ e.fs e.cs [x,y] 0 x rfl
  have x1:=El.at_ e.fs e.cs [x,y] 1 y rfl
  simp [El.avs] at x0 x1
  unfold Ck at C; unfold Ko at A; unfold SqR at S
  rw [El.av_eq x] at T
  rw [El.av_eq y] at B
  rw [El.av_eq e,hs] at C S A
  unfold ec at o
  rw [hs] at o
  refine con_ofO E_fn6 (by simp [AV.pureL,El.av_pure]) (Nat.le_of_ble_eq_true rfl) rfl (g:=[]) ?_
  rw [body_6,c6]
  rw [El.av_eq e,hs]
  simp only [fF,fR] at A S T
  simp [El.avs] at A C S F T o
  simp [↓s_seq,↓s_reg,↓s_cond,↓s_cons,↓s_consG,s_nil,s_gt,s_wb,s_val,s_skip,s_callP,s_cax,s_ret,s_rgx,s_sqn,s_sqr,s_cdb,s_ret',s_skip',s_finr,s_fin1,s_fix,s_clean,o_tmp,o_int,o_bool,l_hit,l_miss,ol_nil,ol_cons,ol_some,x_move,x_assign,x_pick,pk_t,x_bin,bn_s,x_extract,x_callF,cl_no,x_callB,frame0,binA,intOp,resL,resA,results1,sealLW,AV.pure,AV.pureL,keepT,x_alloc,x_box,bxx,x_build,bdx,x_buildSlice,bsx,x_buildSliceF,bsf,x_load,ldx,x_store,stx,x_fieldAddr,x_indexAddr,iax,newK,genOf,setK,lookK,fillA,writeL,writeC,readC,conts,TyI.mk1,fieldAddrA,appendA,copyA,builtinA,AV.cells,chunk,gcH,reach,keysT,keepK,inKs,AV.keys,AV.keysL,Ty.isAgg,sc_int,sc_bool,sc_sl,sc_ref,sl_row,sealRow,sealY,sl_int,sl_bool,sl_agg,i_beq,i_bne,s_site,s_stxN,s_stxO,↓s_regD,s_rgy,barOf,dynChk,footL,dynOK,disjK,keysOp,opVals,Op.operands,Call.operands,o,lv,s0,t0,t2,C,A,F,S,T,B,hw,hr,x0,x1,El.avs]
theorem badB (K:Nat) (hK:200 ≤ K) (e x y:El) (hs:e.s=[x,y]) (r l':Int) (hr:r ≠ 0) (fw:Fw K e r l') (C:Ck K e 0) (S:SqR K e (.tup [.sl false [.int .i64 0,.int .i64 1] none,fR [] 0])) (n x0 x1 x2 x3 x4 x5 x6 x7 x8 x9 x10 x11 x12 x13 x14 x15:Int) (b:Bool) (p:El) (f:Bool) (u:List Int) (c:Option Nat) (j:Int) (v:Int) (hv:v ≠ 0) (A:Ko K e zkg [1] v) (T:∀ h,aCall E K 0 16 [x.av] h=some (.ret (.tup [ag n x0 x1 x2 x3 x4 x5 x6 x7 x8 x9 x10 x11 x12 x13 x14 x15 b p,fR [] 0]),h)) (B:∀ h,aCall E K 0 38 [y.av] h=some (.ret (.tup [.sl f (bs u) c,.int .i64 j,.int .i64 v]),h)):Con E (K + 1) 6 [e.av] (.bool true):=by
  have o:=fun slot h hk => A8.opk (slot:=slot) (h:=h) (key:=(1,3,0)) (l:=40) (by rfl) hk fw
  have lv:=A8.lives K hK 0
  have s0:=sk0 K (by omega) 0
  have t0:=A3.seqT K (by omega)
  have t2:=bitT K (by omega) 0
  have F:=fun f g d => A0.fault f g d [1] v (by simp) K (by simp; omega) 0
  have x0:=El.at_ e.fs e.cs [x,y] 0 x rfl
  have x1:=El.at_ e.fs e.cs [x,y] 1 y rfl
  simp [El.avs] at x0 x1
  unfold Ck at C; unfold Ko at A; unfold SqR at S
  have F1:=rone v 1 (by omega) K (by omega) 0
  try simp at F1
  rw [El.av_eq x] at T
  rw [El.av_eq y] at B
  rw [El.av_eq e,hs] at C S A
  unfold ec at o
  rw [hs] at o
  refine con_ofO E_fn6 (by simp [AV.pureL,El.av_pure]) (Nat.le_of_ble_eq_true rfl) rfl (g:=[]) ?_
  rw [body_6,c6]
  rw [El.av_eq e,hs]
  simp only [fF,fR] at A S T
  simp [El.avs] at A C S F T o
  simp [↓s_seq,↓s_reg,↓s_cond,↓s_cons,↓s_consG,s_nil,s_gt,s_wb,s_val,s_skip,s_callP,s_cax,s_ret,s_rgx,s_sqn,s_sqr,s_cdb,s_ret',s_skip',s_finr,s_fin1,s_fix,s_clean,o_tmp,o_int,o_bool,l_hit,l_miss,ol_nil,ol_cons,ol_some,x_move,x_assign,x_pick,pk_t,x_bin,bn_s,x_extract,x_callF,cl_no,frame0,binA,intOp,resL,resA,results1,sealLW,AV.pure,AV.pureL,keepT,x_alloc,x_box,bxx,x_build,bdx,x_buildSliceF,bsf,x_load,ldx,x_store,stx,x_fieldAddr,x_indexAddr,iax,newK,genOf,setK,lookK,fillA,writeL,writeC,readC,TyI.mk1,fieldAddrA,AV.cells,chunk,gcH,reach,keysT,keepK,inKs,AV.keys,AV.keysL,Ty.isAgg,sc_int,sc_bool,sc_sl,sl_int,sl_bool,sl_agg,i_beq,i_bne,s_site,s_stxN,s_stxO,↓s_regD,s_rgy,barOf,dynChk,o,lv,s0,t0,t2,C,A,F,S,T,B,hv,F1,hr,x0,x1,El.avs]
theorem good (K:Nat) (hK:200 ≤ K) (e x y:El) (hs:e.s=[x,y]) (r l':Int) (hr:r ≠ 0) (fw:Fw K e r l') (C:Ck K e 0) (S:SqR K e (.tup [.sl false [.int .i64 0,.int .i64 1] none,fR [] 0])) (n x0 x1 x2 x3 x4 x5 x6 x7 x8 x9 x10 x11 x12 x13 x14 x15:Int) (b:Bool) (p:El) (f:Bool) (u:List Int) (c:Option Nat) (j:Int) (f2:Bool) (u2:List Int) (c2:Option Nat) (m:Int) (p2 yy:El) (n2 y0 y1 y2 y3 y4 y5 y6 y7 y8 y9 y10 y11 y12 y13 y14 y15:Int) (b2:Bool) (A:Ko K e (kg n2 y0 y1 y2 y3 y4 y5 y6 y7 y8 y9 y10 y11 y12 y13 y14 y15 b2 p2 f2 u2 c2 m) [] 0) (T:∀ h,aCall E K 0 16 [x.av] h=some (.ret (.tup [ag n x0 x1 x2 x3 x4 x5 x6 x7 x8 x9 x10 x11 x12 x13 x14 x15 b p,fR [] 0]),h)) (B:∀ h,aCall E K 0 38 [y.av] h=some (.ret (.tup [.sl f (bs u) c,.int .i64 j,.int .i64 0]),h)) (D:∀ h,aCall E K 0 27 [kg n2 y0 y1 y2 y3 y4 y5 y6 y7 y8 y9 y10 y11 y12 y13 y14 y15 b2 p2 f2 u2 c2 m] h=some (.ret (.tup [yy.av,.int .i64 0]),h)) (M:∀ h,aCall E K 0 20 [yy.av,e.av] h=some (.ret (.int .i64 1),h)):Con E (K + 1) 6 [e.av] (.bool true):=by
  have o:=fun slot h hk => A8.opk (slot:=slot) (h:=h) (key:=(1,3,0)) (l:=40) (by rfl) hk fw
  have lv:=A8.lives K hK 0
  have s0:=sk0 K (by omega) 0
  have t0:=A3.seqT K (by omega)
  have t2:=bitT K (by omega) 0
  have F:=fun f g d => A0.fault f g d [] 0 (by simp) K (by simp; omega) 0
  have x0:=El.at_ e.fs e.cs [x,y] 0 x rfl
  have x1:=El.at_ e.fs e.cs [x,y] 1 y rfl
  simp [El.avs] at x0 x1
  unfold Ck at C; unfold Ko at A; unfold SqR at S
  rw [El.av_eq yy] at D M
  rw [El.av_eq e,hs] at M
  try simp [El.avs] at M
  rw [El.av_eq x] at T
  rw [El.av_eq y] at B
  rw [El.av_eq e,hs] at C S A
  unfold ec at o
  rw [hs] at o
  refine con_ofO E_fn6 (by simp [AV.pureL,El.av_pure]) (Nat.le_of_ble_eq_true rfl) rfl (g:=[]) ?_
  rw [body_6,c6]
  rw [El.av_eq e,hs]
  simp only [fF,fR] at A S T
  simp [El.avs] at A C S F T o
  simp [↓s_seq,↓s_reg,↓s_cond,↓s_cons,↓s_consG,s_nil,s_gt,s_wb,s_val,s_skip,s_callP,s_cax,s_ret,s_rgx,s_sqn,s_cdb,s_ret',s_skip',s_finr,s_fin1,s_fix,s_clean,o_tmp,o_int,o_bool,l_hit,l_miss,ol_nil,ol_cons,ol_some,x_move,x_assign,x_pick,pk_t,x_bin,bn_s,x_extract,x_callF,cl_no,frame0,binA,intOp,resL,resA,results1,sealLW,AV.pure,AV.pureL,keepT,x_alloc,x_box,bxx,x_build,bdx,x_buildSliceF,bsf,x_load,ldx,x_store,stx,x_fieldAddr,x_indexAddr,iax,newK,genOf,setK,lookK,fillA,writeL,writeC,readC,TyI.mk1,fieldAddrA,AV.cells,chunk,gcH,reach,keysT,keepK,inKs,AV.keys,AV.keysL,Ty.isAgg,sc_int,sc_bool,sc_sl,sl_bool,sl_agg,i_beq,s_site,s_stxN,s_stxO,↓s_regD,s_rgy,barOf,dynChk,o,lv,t0,t2,C,A,F,S,T,B,D,M,hr,x0,x1,El.avs]
theorem fe_of (e:El) (fe:FW.Fe 100 40 e):e.s.length ≤ 1000 ∧ ∀ x ∈ e.s,x.s.length ≤ 1000 ∧ x.b.length ≤ 100 ∧ ∀ y ∈ x.s,y.b.length ≤ 1000:=by
  obtain ⟨_,b1,s1,sub⟩:=fe
  refine ⟨by omega,fun x hx => ?_⟩
  obtain ⟨_,b2,s2,sub2⟩:=sub x hx
  exact ⟨by omega,by omega,fun y hy => by obtain ⟨_,b3,_,_⟩:=sub2 y hy; omega⟩
theorem law (e:El) (he:e.ok) (nn:E31.Nn e):∃ N,Con E N 6 [e.av] (.bool true):=by
  obtain ⟨Nf,few⟩:=Q20.few_con e he
  by_cases hq:(FW.few 100 40 e.core 40 0).1=0
  · have F:=few (Nf + 200) (by omega) 0 40 (by omega) (by omega) (by omega) (by omega)
    rw [hq] at F
    exact ⟨Nf + 200 + 1,many (Nf + 200) (by omega) e _ F⟩
  have fe:=FW.few_fe 100 40 e 40 0 hq
  have wd:=A8.fe_wd e fe
  have sh:=A8.fe_sh e fe
  obtain ⟨z1,z2⟩:=fe_of e fe
  obtain ⟨n,x0,x1,x2,x3,x4,x5,x6,x7,x8,x9,x10,x11,x12,x13,x14,x15,b,p,f,u,c,m,q,w,⟨⟨N1,A⟩,hp,hb,hg⟩,way⟩:=K6.both e he wd nn sh z1 z2
  obtain ⟨N2,C0⟩:=E10.check e he
  have S':=fun k c (hk:70 ≤ k) => F10.rsequence false c lK e tS (by omega) (by simp) k (by simp; omega) 0
  simp only [List.map,Fld.av,Fld.cells,tS] at S'
  cases way with
  | chk h1 h2 h3 =>
    subst h3
    rw [hb h2] at A
    rw [h1] at C0
    obtain ⟨K,hK⟩:∃ K,Nf + N1 + N2 + 300=K:=⟨_,rfl⟩
    exact ⟨_,chk K (by omega) e _ _ hq (few K (by omega) 0 40 (by omega) (by omega) (by omega) (by omega)) w h2 (A _ (by omega) 0) (C0 _ (by omega) 0)⟩
  | seq h1 h2 h3 =>
    rw [hb h3] at A
    rw [h1] at C0
    rw [h2] at S'
    have:=F11.sq_bad h2
    obtain ⟨K,hK⟩:∃ K,Nf + N1 + N2 + 300=K:=⟨_,rfl⟩
    exact ⟨_,seq K (by omega) e _ _ hq (few K (by omega) 0 40 (by omega) (by omega) (by omega) (by omega)) q w (by omega) h3 (A _ (by omega) 0) (C0 _ (by omega) 0) (fun c => S' _ c (by omega))⟩
  | two x y n' y0 y1 y2 y3 y4 y5 y6 y7 y8 y9 y10 y11 y12 y13 y14 y15 b' p' q1 w1 f' u' c' j v h1 h2 hs told bof l1 hw hq' hq0 =>
    rw [h1] at C0
    rw [h2] at S'
    obtain ⟨N3,T⟩:=told
    obtain ⟨N4,B⟩:=bof
    by_cases hw1:w1=0
    case neg =>
      rw [if_pos hw1] at hw hq'
      subst hw hq'
      rw [hb hw1] at A
      obtain ⟨K,hK⟩:∃ K,Nf + N1 + N2 + N3 + N4 + 300=K:=⟨_,rfl⟩
      have fw:=few K (by omega) 0 40 (by omega) (by omega) (by omega) (by omega)
      rcases q1 with _ | ⟨i,_ | ⟨i2,r⟩⟩
      · exact ⟨_,badA0 K (by omega) e x y hs _ _ hq fw (C0 _ (by omega) 0) (fun c => S' _ c (by omega)) n' y0 y1 y2 y3 y4 y5 y6 y7 y8 y9 y10 y11 y12 y13 y14 y15 b' p' f' u' c' j w v hw1 (A _ (by omega) 0) (T _ (by omega) 0) (B _ (by omega) 0)⟩
      · exact ⟨_,badA1 K (by omega) e x y hs _ _ hq fw (C0 _ (by omega) 0) (fun c => S' _ c (by omega)) n' y0 y1 y2 y3 y4 y5 y6 y7 y8 y9 y10 y11 y12 y13 y14 y15 b' p' f' u' c' j i w v hw1 (A _ (by omega) 0) (T _ (by omega) 0) (B _ (by omega) 0)⟩
      · simp at l1
    obtain rfl:=hq0 hw1
    subst hw1
    rw [if_neg (by simp)] at hw hq'
    by_cases hv:v=0
    case neg =>
      rw [if_pos hv] at hq'
      subst hw hq'
      rw [hb hv] at A
      obtain ⟨K,hK⟩:∃ K,Nf + N1 + N2 + N3 + N4 + 300=K:=⟨_,rfl⟩
      have fw:=few K (by omega) 0 40 (by omega) (by omega) (by omega) (by omega)
      exact ⟨_,badB K (by omega) e x y hs _ _ hq fw (C0 _ (by omega) 0) (fun c => S' _ c (by omega)) n' y0 y1 y2 y3 y4 y5 y6 y7 y8 y9 y10 y11 y12 y13 y14 y15 b' p' f' u' c' j w hv (A _ (by omega) 0) (T _ (by omega) 0) (B _ (by omega) 0)⟩
    subst hv
    rw [if_neg (by simp)] at hq'
    subst hw hq'
    obtain ⟨_,ya,za,to,tc,EA,EB⟩:=hg rfl
    obtain ⟨N5,D,_⟩:=K4.key n x0 x1 x2 x3 x4 x5 x6 x7 x8 x9 x10 x11 x12 x13 x14 x15 b p ya za f u c m 0 0 EA EB to
    have h1':K4.kw ya za 0 0=0:=by
      unfold K4.kw
      rw [if_neg (by simp),if_neg (by simp),tc]
      exact h1
    rw [h1',if_pos rfl] at D
    obtain ⟨N6,M⟩:=F1.same (tp [ya,za] 2) e to tc
    obtain ⟨K,hK⟩:∃ K,Nf + N1 + N2 + N3 + N4 + N5 + N6 + 300=K:=⟨_,rfl⟩
    have fw:=few K (by omega) 0 40 (by omega) (by omega) (by omega) (by omega)
    exact ⟨_,good K (by omega) e x y hs _ _ hq fw (C0 _ (by omega) 0) (fun c => S' _ c (by omega)) n' y0 y1 y2 y3 y4 y5 y6 y7 y8 y9 y10 y11 y12 y13 y14 y15 b' p' f' u' c' j f u c m p (tp [ya,za] 2) n x0 x1 x2 x3 x4 x5 x6 x7 x8 x9 x10 x11 x12 x13 x14 x15 b (A _ (by omega) 0) (T _ (by omega) 0) (B _ (by omega) 0) (D _ (by omega) 0) (M _ (by omega) 0)⟩
end K7
end
