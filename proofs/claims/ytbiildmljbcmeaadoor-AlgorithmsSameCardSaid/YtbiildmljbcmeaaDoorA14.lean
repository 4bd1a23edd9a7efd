/- Own work, no conditions. -/
import Derived.Test.YtbiildmljbcmeaaDoorB0d
import Derived.Test.YtbiildmljbcmeaaDoorF5
import Derived.Test.YtbiildmljbcmeaaDoorSG
set_option maxRecDepth 20000
set_option linter.unusedSimpArgs false
set_option linter.unusedVariables false
set_option maxHeartbeats 16000000
section
open Ab Go TabE
attribute [local simp ↓] s_seq s_reg s_regd s_cond s_block s_cons s_consG s_regD
attribute [local simp] s_nil s_loop s_round s_lpn s_lpe s_lpr firstReg s_gt s_gf s_wb s_wu s_val s_valN s_skip s_calls s_callP s_cax lookR flatR pureKs s_ret s_rgx s_sqn s_sqr s_sqe s_cdb s_bkn s_bkr s_bke s_exit s_ret' s_skip' s_finr s_finn s_fin1 s_fix s_clean s_gc0 o_tmp o_int o_bool o_nil o_str o_fn o_nil' l_hit l_miss l_nil ol_nil ol_cons ol_some x_move x_assign x_pick pk_t pk_f x_bin bn_s x_un x_extract x_callF cl_no x_callB x_callBF frzV x_conv cvx convA frame0 binA intOp resL resA results1 sealLW AV.pure AV.pureL keepT x_alloc x_box bxx x_build bdx x_buildSlice bsx x_buildSliceF bsf x_load ldx x_store stx x_slice slx x_fieldAddr x_field x_index ixx x_indexAddr iax x_makeSlice msx x_makeSliceF msf x_nilCheck newK genOf setK lookK fillA writeL writeC readC conts TyI.mk1 sliceA boundsA boundsB fitsA numA indexAddrA fieldAddrA partA fieldA indexA appendA copyA builtinA AV.cells chunk gcH reach keysT keepK inKs AV.keys AV.keysL Ty.isAgg eq1 eqL convA.go ltI w_u8 w_u32 w_u64 w_i64 w_fdiv w_tdiv w_tmod IntKind.bits unA sc_int sc_bool sc_str sc_sl sc_ref sc_ptr sc_pel sc_nilp sc_fn sc_nilf sc_if sc_nili sc_agg sc_tup sc_mem bs_pure bs_kl bs_length bs_cells bs_all sl_row sealRow sealY sl_int sl_bool sl_str sl_sl sl_nilp sl_nilf sl_nili sl_pel sl_agg sl_tup sl_fn sl_if nat_1 bs_cons bs_nil i_beq i_bne x_mkF x_mkI x_tassert x_panic s_pan s_sqp s_bkp s_finp s_fixp s_lpp s_rgp s_retp s_site s_stxN s_stxO x_callT clx El.avs_len s_dyn0 s_rgy barOf dynChk footL dynOK disjK keysOp opVals Op.operands
section
open Ab Go TabE Sp
namespace B1o
open B0d
abbrev Lp (K:Nat):=aLoop (aCode E (aCall E K) (dcall (aRun E K)) K 1 fn74 b) (cleanS 1 ((firstReg b).bind fn74.head))
theorem loop (K:Nat) (hK:20 ≤ K) (n:Int) (h16:n ≤ 16) (xs:List Int) (hl:xs.length=16) (hx:∀ x ∈ xs,0 ≤ x ∧ x < 4294967296):∀ (m i mm k:Nat) (ys:List Int),((i + m:Nat):Int)=n → ys.length + 5 * m ≤ 1000 → m < k →
    ∃ mm',Lp K k (SR n xs mm ys i)=some (OutR n xs mm' (ys ++ ((xs.drop i).take m).flatMap OG.grp) (i + m))
  | 0,i,mm,k,ys,h,hy,hk => by
    obtain ⟨k,rfl⟩:∃ j,k=j + 1:=⟨k - 1,by omega⟩
    refine ⟨mm,?_⟩
    rw [List.take_zero,List.flatMap_nil,List.append_nil]
    exact aLoop_end (lastR K K n xs mm ys i h h16) (fun h => by cases h)
  | m + 1,i,mm,k,ys,h,hy,hk => by
    obtain ⟨k,rfl⟩:∃ j,k=j + 1:=⟨k - 1,by omega⟩
    have hi:i < xs.length:=by omega
    have hxi:xs[i]? = some xs[i]:=List.getElem?_eq_getElem hi
    have hb:=hx _ (List.getElem_mem hi)
    obtain ⟨c,D⟩:=dig xs[i] hb.1 hb.2
    have gl:=grp_len xs[i]
    have st:=next K K n xs i xs[i] hxi (by omega) h16 hl (OG.grp xs[i]) c gl.2 (fun q => by rw [q] at gl; simp at gl) (fun h => D K (by omega) 0 h) mm ys (by omega)
    obtain ⟨mm',L⟩:=loop K hK n h16 xs hl hx m (i + 1) (mm + 1) k (ys ++ OG.grp xs[i]) (by omega) (by rw [List.length_append]; omega) (by omega)
    refine ⟨mm',?_⟩
    unfold Lp at L ⊢
    rw [aLoop_succ st,L,List.drop_eq_getElem_cons hi,List.take_succ_cons,List.flatMap_cons,← List.append_assoc,show i + 1 + m=i + (m + 1) from by omega]
theorem oid (n x y:Int) (r:List Int) (hl:(x :: y :: r).length=16) (n2:2 ≤ n) (h16:n ≤ 16) (hx:∀ z ∈ x :: y :: r,0 ≤ z ∧ z < 4294967296) (sm:40 * x + y < 128):∃ N c,Con E N 74 [.agg (cs n (x :: y :: r))] (.sl false (bs (OP.octs n (x :: y :: r))) c):=by
  have bx0:=hx x (by simp)
  have by0:=hx y (by simp)
  have w1:40 * x % 4294967296=40 * x:=by omega
  have w2:(40 * x + y) % 4294967296=40 * x + y:=by omega
  obtain ⟨K,hK⟩:∃ K,K=60:=⟨_,rfl⟩
  have D0:=F17.dig1 (40 * x + y) (by omega) sm K (by omega) 0
  have g0:OG.grp (y + 40 * x)=[TG.oct (40 * x + y) 0]:=by
    rw [show y + 40 * x=40 * x + y from by omega]
    unfold OG.grp OG.top
    rw [if_pos sm]
    rfl
  obtain ⟨m,hm⟩:∃ m:Nat,n=(m:Int) + 2:=⟨(n - 2).toNat,by omega⟩
  have oc:OP.octs n (x :: y :: r)=TG.oct (40 * x + y) 0 :: (r.take m).flatMap OG.grp:=by
    unfold OP.octs OP.subs
    simp only [List.flatMap_cons,g0]
    rw [show n.toNat - 2=m from by omega]
    rfl
  rw [oc]
  obtain ⟨d,hd⟩:∃ d,TG.oct (40 * x + y) 0=d:=⟨_,rfl⟩
  rw [hd] at D0 ⊢
  have ui:∀ h,indexAddrA E 33 (.ptr (1,1,0) 1) (.int .i64 0) h=some (.ptr (1,1,0) 1):=fun h => by
    simp [indexAddrA,E_ty33,E_ty23,TyI.mk1]
  have ui1:∀ h,indexAddrA E 33 (.ptr (1,1,0) 1) (.int .i64 1) h=some (.ptr (1,1,0) 2):=fun h => by
    simp [indexAddrA,E_ty33,E_ty23,TyI.mk1]
  have ue:Q22.u32s (x :: y :: r)=.int .u32 x :: .int .u32 y :: Q22.u32s r:=rfl
  have uk:=Q22.u32s_keys r
  have up:=Q22.u32s_pure r
  have us:∀ a ∈ Q22.u32s r,a.scal=true:=fun a ha => by
    obtain ⟨w,_,rfl⟩:=List.mem_map.1 ha
    rfl
  have ul:(Q22.u32s r).length=14:=by unfold Q22.u32s; simp at hl ⊢; omega
  cases m with
  | zero =>
    have L:Lp K K (S0 n (x :: y :: r) d 2)=some (Out0 n (x :: y :: r) d 2):=by
      subst hK
      exact aLoop_end (k:=59) (last0 60 60 n _ d 2 (by omega) h16) (fun h => by cases h)
    refine ⟨K + 1,some 1,con_of E_fn74 (by simp [AV.pureL,AV.pure,Q22.u32s_pure]) (Nat.le_of_ble_eq_true rfl) rfl rfl (g:=[]) ?_⟩
    rw [body_74,c74]
    simp [Lp,b,lp,lps,c74,firstReg,S0,Out0,bx,cs,ue] at L
    simp [-s_round,L,D0,w1,w2,uk,up,ul,cs,ue]
    rw [if_pos us]
    simp [-s_round,L,D0,w1,w2,uk,up,ul]
  | succ m =>
    obtain ⟨z,r',rfl⟩:∃ z r',r=z :: r':=by
      cases r with
      | nil => simp at hl
      | cons z r' => exact ⟨z,r',rfl⟩
    have bz:=hx z (by simp)
    obtain ⟨c,D⟩:=dig z bz.1 bz.2
    have gl:=grp_len z
    have st:=first K K n (x :: y :: z :: r') 2 z rfl (by omega) h16 hl (OG.grp z) c gl.2 (fun q => by rw [q] at gl; simp at gl) (fun h => D K (by omega) 0 h) d
    obtain ⟨mm,L0⟩:=loop K (by omega) n h16 (x :: y :: z :: r') hl hx m 3 0 59 (d :: OG.grp z) (by omega) (by rw [List.length_cons]; omega) (by omega)
    have L:Lp K K (S0 n (x :: y :: z :: r') d 2)=some (OutR n (x :: y :: z :: r') mm (d :: ((z :: r').take (m + 1)).flatMap OG.grp) (3 + m)):=by
      have e:(d :: OG.grp z) ++ (((x :: y :: z :: r').drop 3).take m).flatMap OG.grp=d :: ((z :: r').take (m + 1)).flatMap OG.grp:=by simp
      rw [e] at L0
      rw [← L0]
      subst hK
      unfold Lp
      exact aLoop_succ (k:=59) st
    obtain ⟨ys,hys⟩:∃ ys,d :: ((z :: r').take (m + 1)).flatMap OG.grp=ys:=⟨_,rfl⟩
    rw [hys] at L ⊢
    have yk:=bs_kl ys
    refine ⟨K + 1,none,con_of E_fn74 (by simp [AV.pureL,AV.pure,Q22.u32s_pure]) (Nat.le_of_ble_eq_true rfl) rfl rfl (g:=[]) ?_⟩
    rw [body_74,c74]
    obtain ⟨rr,hr⟩:∃ rr,Q22.u32s (z :: r')=rr:=⟨_,rfl⟩
    rw [hr] at ue uk up ul us
    simp [Lp,b,lp,lps,c74,firstReg,S0,SR,OutR,bx,cs,ue] at L
    simp [-s_round,L,D0,w1,w2,uk,up,ul,cs,ue,yk]
    rw [if_pos us]
    simp [-s_round,L,D0,w1,w2,uk,up,ul,yk]
end B1o
end
section
open Ab Go TabE Sp E34 F1
namespace S2
theorem bad49 (q k1:Nat) (a b x y:El) (i:Nat) (hx:a.s[i]? = some x) (hy:b.s[i]? = some y) (le:a.s.length ≤ 9223372036854775807) (B:∀ h,aCall E q 0 20 [x.av,y.av] h=some (.ret (.int .i64 0),h)) :
    rnd fn20 b49 q k1 (S49 a b i)=some (.ret,⟨[(4,.int .i64 0)],[]⟩):=by
  have hi:i < a.s.length:=(List.getElem?_eq_some_iff.1 hx).1
  have ix:=fun hp => El.at_ a.fs a.cs a.s i x hx hp
  have iy:=fun hp => El.at_ b.fs b.cs b.s i y hy hp
  rw [El.av_eq,El.av_eq] at B
  simp [b49,lp,lps,c20,-indexAddrA,ix,iy,B,hi]
theorem cores_ne:∀ (l r:List El),l.length=r.length → El.cores l ≠ El.cores r → ∃ (j:Nat) (x y:El),l[j]? = some x ∧ r[j]? = some y ∧ x.core ≠ y.core ∧ ∀ (i:Nat) (u v:El),i < j → l[i]? = some u → r[i]? = some v → u.core=v.core
  | [],[],_,h => absurd rfl h
  | [],_ :: _,h,_ => by simp at h
  | _ :: _,[],h,_ => by simp at h
  | x :: l,y :: r,h,hn => by
    by_cases e:x.core=y.core
    · obtain ⟨j,u,v,h1,h2,h3,h4⟩:=cores_ne l r (by simpa using h) (fun q => hn (by rw [El.cores,El.cores,e,q]))
      refine ⟨j + 1,u,v,by simpa using h1,by simpa using h2,h3,fun i p q hi hp hq => ?_⟩
      cases i with
      | zero => simp at hp hq; subst hp; subst hq; exact e
      | succ i => exact h4 i p q (by omega) (by simpa using hp) (by simpa using hq)
    · exact ⟨0,x,y,rfl,rfl,e,fun i _ _ hi => by omega⟩
theorem differ:∀ a:El,∀ b:El,a.ok → b.ok → a.core ≠ b.core → ∃ N,Con E N 20 [a.av,b.av] (.int .i64 0):=by
  refine El.ind fun a ih b ha hb hc => ?_
  have ga:=bs_go ha.bb
  have gb:=bs_go hb.bb
  by_cases e1:a.c=b.c
  case neg =>
    refine ⟨21,con_of E_fn20 (by simp [AV.pureL,El.av_pure]) (Nat.le_of_ble_eq_true rfl) rfl rfl (g:=[]) ?_⟩
    rw [body_20,c20]
    simp [El.av_eq,-s_round,e1,ga,gb,fitZ]
  by_cases e2:a.k=b.k
  case neg =>
    refine ⟨21,con_of E_fn20 (by simp [AV.pureL,El.av_pure]) (Nat.le_of_ble_eq_true rfl) rfl rfl (g:=[]) ?_⟩
    rw [body_20,c20]
    cases ak:a.k <;> cases bk:b.k <;> simp [ak,bk] at e2 <;> simp [El.av_eq,-s_round,e1,ak,bk,ga,gb,fitZ]
  by_cases e3:a.n=b.n
  case neg =>
    refine ⟨21,con_of E_fn20 (by simp [AV.pureL,El.av_pure]) (Nat.le_of_ble_eq_true rfl) rfl rfl (g:=[]) ?_⟩
    rw [body_20,c20]
    simp [El.av_eq,-s_round,e1,e2,e3,ga,gb,fitZ]
  by_cases e4:a.b=b.b
  case neg =>
    refine ⟨21,con_of E_fn20 (by simp [AV.pureL,El.av_pure]) (Nat.le_of_ble_eq_true rfl) rfl rfl (g:=[]) ?_⟩
    rw [body_20,c20]
    simp [El.av_eq,-s_round,e1,e2,e3,e4,ga,gb,fitZ]
  by_cases e5:a.s.length=b.s.length
  case neg =>
    have e5':¬ (a.s.length:Int)=b.s.length:=by omega
    refine ⟨21,con_of E_fn20 (by simp [AV.pureL,El.av_pure]) (Nat.le_of_ble_eq_true rfl) rfl rfl (g:=[]) ?_⟩
    rw [body_20,c20]
    simp [El.av_eq,-s_round,e1,e2,e3,e4,e5',ga,gb,fitZ]
  have hcs:El.cores a.s ≠ El.cores b.s:=fun q => hc (El.core_inj.2 ⟨e1,e2,e3,e4,q⟩)
  obtain ⟨j,x,y,hx,hy,hne,hlt⟩:=cores_ne a.s b.s e5 hcs
  have mx:=List.mem_of_getElem? hx
  have my:=List.mem_of_getElem? hy
  have hj:j < a.s.length:=(List.getElem?_eq_some_iff.1 hx).1
  obtain ⟨M,hM⟩:=ih x mx y (ha.sub x mx) (hb.sub y my) hne
  obtain ⟨N,hN⟩:=unif (P:=fun (i n:Nat) => ∀ x y:El,a.s[i]? = some x → b.s[i]? = some y → Con E n 20 [x.av,y.av] (.int .i64 1)) (fun i n m h hm x y hx hy k hk => h x y hx hy k (Nat.le_trans hm hk)) (List.range j) (fun i hi => by
    have hi':i < j:=List.mem_range.1 hi
    obtain ⟨x,hx⟩:∃ x,a.s[i]? = some x:=⟨a.s[i],by simp⟩
    obtain ⟨y,hy⟩:∃ y,b.s[i]? = some y:=⟨b.s[i]'(by omega),List.getElem?_eq_getElem _⟩
    have mx:=List.mem_of_getElem? hx
    obtain ⟨n,hn⟩:=F1.same x y (ha.sub x mx) (hlt i x y hi' hx hy)
    exact ⟨n,fun x' y' hx' hy' => by rw [hx] at hx'; rw [hy] at hy'; cases hx'; cases hy'; exact hn⟩)
  obtain ⟨K,hK⟩:∃ K,N + M + a.s.length + 10=K:=⟨_,rfl⟩
  refine ⟨K + 1,con_of E_fn20 (by simp [AV.pureL,El.av_pure]) (Nat.le_of_ble_eq_true rfl) rfl rfl (g:=[]) ?_⟩
  rw [body_20,c20]
  have L:=loopQ (fn:=fn20) (b:=b49) (K:=K) (k:=K) (fun i => S49 a b i) j rfl (fun i hi => by
    obtain ⟨x,hx⟩:∃ x,a.s[i]? = some x:=⟨a.s[i],by simp⟩
    obtain ⟨y,hy⟩:∃ y,b.s[i]? = some y:=⟨b.s[i]'(by omega),List.getElem?_eq_getElem _⟩
    exact go49 K K a b x y i hx hy ha.sl fun h => hN i (List.mem_range.2 hi) x y hx hy K (by omega) 0 h) (bad49 K K a b x y j hx hy ha.sl fun h => hM K (by omega) 0 h) (by simp) (by omega)
  simp [b49,lp,lps,c20,firstReg,S49,bx,ec,← e1,← e2,← e3,← e4] at L
  simp [El.av_eq,-s_round,← e1,← e2,← e3,← e4,← e5,ga,L,fitZ]
end S2
end
section
open Ab Go TabE Sp E34 F1
namespace AE
theorem opened_fn2 {E:Env} {k slot f h x y g v hf} (hr:aRun E k f [x,y,.fn g [] []] []=some (.ret v,hf)) (hx:x.pure=true) (hy:y.pure=true) (hv:v.pure=true):opened [false,false,true] true (aRun E k) slot f [x,y,.fn g [] []] h=some (.ret v,h):=by
  have e1:sealM (sealA 20) [false,false,true] h [x,y,.fn g [] []]=some ([x,y,.fn g [] []],h):=by simp [sealM,sealA_of_pure hx,sealA_of_pure hy]
  have e2:AV.keysL [x,y,.fn g [] []]=[]:=by simp [AV.keysL,AV.keys,AV.keys_pure x hx,AV.keys_pure y hy]
  have e3:AV.rnL (inK []) [x,y,.fn g [] []]=[x,y,.fn g [] []]:=by simp [AV.rnL,AV.rn,rn_pure x hx,rn_pure y hy]
  have e4:sealA 20 hf v=some (v,hf):=sealA_of_pure hv
  have e5:AV.keysL [v]=[]:=by simp [AV.keysL,AV.keys_pure v hv]
  have e6:∀ φ,AV.rnL φ [v]=[v]:=fun φ => by simp [AV.rnL,rn_pure v hv]
  have e7:∀ h:Heap,dd (reach h 3 [])=[]:=fun h => rfl
  unfold opened
  rw [e1]
  simp only [e2,e7]
  unfold lendA
  simp only [lendH,closedH,e2,List.all_nil,and_self,if_true,e3,hr,backR,e4]
  unfold backV Ab.back backA
  simp only [List.length_nil,lentKs,List.range_zero,List.map_nil,List.nil_append,e5,e7,closedH,List.all_nil,and_self,if_true,e6,List.filter_nil,putAll]
theorem bytesEq (f g c d) (a b:List Int) (ha:isB a) (hb:isB b):Con E 20 81 [.sl f (bs a) c,.sl g (bs b) d] (.bool (decide (a=b))):=by
  have ga:=bs_go ha
  have gb:=bs_go hb
  refine con_of E_fn81 (by simp [AV.pureL,AV.pure]) (Nat.le_of_ble_eq_true rfl) rfl rfl (g:=[]) ?_
  rw [body_81,c81]
  by_cases h:a=b <;> simp [ga,gb,h]
def b:Code:=lp c129 0
abbrev S (f g:Bool) (c d:Option Nat) (s t:List El) (i:Nat):St:=⟨[(1,.sl g (El.avs t) d),(2,.fn 80 [] []),(15,.sl f (El.avs s) c),(16,.int .i64 (s.length:Int)),(17,.int .i64 (i:Int))],[]⟩
theorem go (q k1:Nat) (f g c d) (s t:List El) (x y:El) (i:Nat) (hx:s[i]? = some x) (hy:t[i]? = some y) (le:s.length ≤ 9223372036854775807) (B:∀ h,aCall E q 0 80 [x.av,y.av] h=some (.ret (.bool true),h)) :
    rndO fn129 b q k1 (S f g c d s t i)=some (.normal,S f g c d s t (i + 1)):=by
  have hi:i < s.length:=(List.getElem?_eq_some_iff.1 hx).1
  have ix:=fun hp => El.at_ f c s i x hx hp
  have iy:=fun hp => El.at_ g d t i y hy hp
  have w:=w64' ((i:Int) + 1) (by omega) (by omega)
  rw [El.av_eq,El.av_eq] at B
  simp [b,lp,lps,c129,-indexAddrA,ix,iy,w,B,hi]
theorem bad (q k1:Nat) (f g c d) (s t:List El) (x y:El) (i:Nat) (hx:s[i]? = some x) (hy:t[i]? = some y) (le:s.length ≤ 9223372036854775807) (B:∀ h,aCall E q 0 80 [x.av,y.av] h=some (.ret (.bool false),h)) :
    rndO fn129 b q k1 (S f g c d s t i)=some (.ret,⟨[(6,.bool false)],[]⟩):=by
  have hi:i < s.length:=(List.getElem?_eq_some_iff.1 hx).1
  have ix:=fun hp => El.at_ f c s i x hx hp
  have iy:=fun hp => El.at_ g d t i y hy hp
  rw [El.av_eq,El.av_eq] at B
  simp [b,lp,lps,c129,-indexAddrA,ix,iy,B,hi]
abbrev Out (f g:Bool) (c d:Option Nat) (s t:List El):AExit × St:=(.exit 0,⟨(S f g c d s t s.length).t ++ [(18,.bool false)],[]⟩)
theorem last (q k1:Nat) (f g c d) (s t:List El):rndO fn129 b q k1 (S f g c d s t s.length)=some (Out f g c d s t):=by
  simp [b,lp,lps,c129]
theorem eqRunT (K:Nat) (f g c d) (s t:List El) (hl:s.length=t.length) (le:s.length ≤ 9223372036854775807) (B:∀ (i:Nat) (x y:El),s[i]? = some x → t[i]? = some y → ∀ h,aCall E K 0 80 [x.av,y.av] h=some (.ret (.bool true),h)) (hk:s.length < K) :
    ∃ hf,aRun E (K + 1) 129 [.sl f (El.avs s) c,.sl g (El.avs t) d,.fn 80 [] []] []=some (.ret (.bool true),hf):=by
  have L:=loopO (fn:=fn129) (b:=b) (K:=K) (k:=K) (fun i => S f g c d s t i) s.length rfl (fun i hi => by
    obtain ⟨x,hx⟩:∃ x,s[i]? = some x:=⟨s[i],by simp⟩
    obtain ⟨y,hy⟩:∃ y,t[i]? = some y:=⟨t[i]'(by omega),List.getElem?_eq_getElem _⟩
    exact go K K f g c d s t x y i hx hy le (B i x y hx hy)) (last K K f g c d s t) (by simp) hk
  refine OFn.exm ?_
  rw [aRun_fn rfl E_fn129 rfl (Nat.le_of_ble_eq_true rfl),body_129,c129]
  simp [b,lp,lps,c129,firstReg,S,Out] at L
  simp [-s_round,L,← hl,-Option.map_eq_some_iff]
theorem eqRunF (K:Nat) (f g c d) (s t:List El) (hl:s.length=t.length) (le:s.length ≤ 9223372036854775807) (j:Nat) (u v:El) (hu:s[j]? = some u) (hv:t[j]? = some v) (B:∀ (i:Nat) (x y:El),i < j → s[i]? = some x → t[i]? = some y → ∀ h,aCall E K 0 80 [x.av,y.av] h=some (.ret (.bool true),h)) (Bj:∀ h,aCall E K 0 80 [u.av,v.av] h=some (.ret (.bool false),h)) (hk:s.length < K) :
    ∃ hf,aRun E (K + 1) 129 [.sl f (El.avs s) c,.sl g (El.avs t) d,.fn 80 [] []] []=some (.ret (.bool false),hf):=by
  have hj:j < s.length:=(List.getElem?_eq_some_iff.1 hu).1
  have L:=loopO (fn:=fn129) (b:=b) (K:=K) (k:=K) (fun i => S f g c d s t i) j rfl (fun i hi => by
    obtain ⟨x,hx⟩:∃ x,s[i]? = some x:=⟨s[i],by simp⟩
    obtain ⟨y,hy⟩:∃ y,t[i]? = some y:=⟨t[i]'(by omega),List.getElem?_eq_getElem _⟩
    exact go K K f g c d s t x y i hx hy le (B i x y hi hx hy)) (bad K K f g c d s t u v j hu hv le Bj) (by simp) (by omega)
  refine OFn.exm ?_
  rw [aRun_fn rfl E_fn129 rfl (Nat.le_of_ble_eq_true rfl),body_129,c129]
  simp [b,lp,lps,c129,firstReg,S] at L
  simp [-s_round,L,← hl,-Option.map_eq_some_iff]
theorem eqRunN (K:Nat) (f g c d) (s t:List El) (hl:¬ s.length=t.length) :
    ∃ hf,aRun E (K + 1) 129 [.sl f (El.avs s) c,.sl g (El.avs t) d,.fn 80 [] []] []=some (.ret (.bool false),hf):=by
  have hl':¬ (s.length:Int)=t.length:=by omega
  refine OFn.exm ?_
  rw [aRun_fn rfl E_fn129 rfl (Nat.le_of_ble_eq_true rfl),body_129,c129]
  simp [-s_round,hl',-Option.map_eq_some_iff]
theorem eq_of (K:Nat) (hK:30 ≤ K) (x y:El) (hx:x.ok) (hy:y.ok) (h1:x.c=y.c) (h2:x.k=y.k) (h3:x.n=y.n) (h4:x.b=y.b) (v:Bool) (R:∃ hf,aRun E K 129 [.sl x.fs (El.avs x.s) x.cs,.sl y.fs (El.avs y.s) y.cs,.fn 80 [] []] []=some (.ret (.bool v),hf)):Con E (K + 1) 80 [x.av,y.av] (.bool v):=by
  obtain ⟨hf,R⟩:=R
  have o:=fun slot h => opened_fn2 (slot:=slot) (h:=h) R (by simp [AV.pure,El.avs_pure]) (by simp [AV.pure,El.avs_pure]) rfl
  have B:=bytesEq x.fb y.fb x.cb y.cb x.b y.b hx.bb hy.bb K (by omega) 0
  rw [h4] at B
  simp at B
  refine con_ofO E_fn80 (by simp [AV.pureL,El.av_pure]) (Nat.le_of_ble_eq_true rfl) rfl (g:=[]) ?_
  rw [body_80,c80]
  cases v <;> simp [El.av_eq,h1,h2,h3,h4,B,o,fitZ]
theorem eqT:∀ a:El,∀ b:El,a.ok → b.ok → a.core=b.core → ∃ N,Con E N 80 [a.av,b.av] (.bool true):=by
  refine El.ind fun a ih b ha hb hc => ?_
  obtain ⟨e1,e2,e3,e4,e5⟩:=El.core_inj.1 hc
  have ll:=El.cores_len e5
  obtain ⟨N,hN⟩:=unif (P:=fun (i n:Nat) => ∀ x y:El,a.s[i]? = some x → b.s[i]? = some y → Con E n 80 [x.av,y.av] (.bool true)) (fun i n m h hm x y hx hy k hk => h x y hx hy k (Nat.le_trans hm hk)) (List.range a.s.length) (fun i hi => by
    have hi':i < a.s.length:=List.mem_range.1 hi
    obtain ⟨x,hx⟩:∃ x,a.s[i]? = some x:=⟨a.s[i],by simp⟩
    obtain ⟨y,hy⟩:∃ y,b.s[i]? = some y:=⟨b.s[i]'(by omega),List.getElem?_eq_getElem _⟩
    have mx:=List.mem_of_getElem? hx
    have my:=List.mem_of_getElem? hy
    obtain ⟨n,hn⟩:=ih x mx y (ha.sub x mx) (hb.sub y my) (El.cores_get e5 hx hy)
    exact ⟨n,fun x' y' hx' hy' => by rw [hx] at hx'; rw [hy] at hy'; cases hx'; cases hy'; exact hn⟩)
  obtain ⟨K,hK⟩:∃ K,N + a.s.length + 40=K:=⟨_,rfl⟩
  exact ⟨K + 1 + 1,eq_of (K + 1) (by omega) a b ha hb e1 e2 e3 e4 true (eqRunT K _ _ _ _ a.s b.s ll ha.sl (fun i x y hx hy h => hN i (List.mem_range.2 (List.getElem?_eq_some_iff.1 hx).1) x y hx hy K (by omega) 0 h) (by omega))⟩
theorem eqF:∀ a:El,∀ b:El,a.ok → b.ok → a.core ≠ b.core → ∃ N,Con E N 80 [a.av,b.av] (.bool false):=by
  refine El.ind fun a ih b ha hb hc => ?_
  by_cases e1:a.c=b.c
  case neg =>
    refine ⟨31,con_ofO E_fn80 (by simp [AV.pureL,El.av_pure]) (Nat.le_of_ble_eq_true rfl) rfl (g:=[]) ?_⟩
    rw [body_80,c80]
    simp [El.av_eq,e1,fitZ]
  by_cases e2:a.k=b.k
  case neg =>
    refine ⟨31,con_ofO E_fn80 (by simp [AV.pureL,El.av_pure]) (Nat.le_of_ble_eq_true rfl) rfl (g:=[]) ?_⟩
    rw [body_80,c80]
    cases ak:a.k <;> cases bk:b.k <;> simp [ak,bk] at e2 <;> simp [El.av_eq,e1,ak,bk,fitZ]
  by_cases e3:a.n=b.n
  case neg =>
    refine ⟨31,con_ofO E_fn80 (by simp [AV.pureL,El.av_pure]) (Nat.le_of_ble_eq_true rfl) rfl (g:=[]) ?_⟩
    rw [body_80,c80]
    simp [El.av_eq,e1,e2,e3,fitZ]
  by_cases e4:a.b=b.b
  case neg =>
    have B:=bytesEq a.fb b.fb a.cb b.cb a.b b.b ha.bb hb.bb 30 (by omega) 0
    simp [e4] at B
    refine ⟨31,con_ofO E_fn80 (by simp [AV.pureL,El.av_pure]) (Nat.le_of_ble_eq_true rfl) rfl (g:=[]) ?_⟩
    rw [body_80,c80]
    simp [El.av_eq,e1,e2,e3,B,fitZ]
  by_cases e5:a.s.length=b.s.length
  case neg => exact ⟨_,eq_of 31 (by omega) a b ha hb e1 e2 e3 e4 false (eqRunN 30 _ _ _ _ a.s b.s e5)⟩
  have hcs:El.cores a.s ≠ El.cores b.s:=fun q => hc (El.core_inj.2 ⟨e1,e2,e3,e4,q⟩)
  obtain ⟨j,x,y,hx,hy,hne,hlt⟩:=S2.cores_ne a.s b.s e5 hcs
  have mx:=List.mem_of_getElem? hx
  have my:=List.mem_of_getElem? hy
  have hj:j < a.s.length:=(List.getElem?_eq_some_iff.1 hx).1
  obtain ⟨M,hM⟩:=ih x mx y (ha.sub x mx) (hb.sub y my) hne
  obtain ⟨N,hN⟩:=unif (P:=fun (i n:Nat) => ∀ x y:El,a.s[i]? = some x → b.s[i]? = some y → Con E n 80 [x.av,y.av] (.bool true)) (fun i n m h hm x y hx hy k hk => h x y hx hy k (Nat.le_trans hm hk)) (List.range j) (fun i hi => by
    have hi':i < j:=List.mem_range.1 hi
    obtain ⟨x,hx⟩:∃ x,a.s[i]? = some x:=⟨a.s[i],by simp⟩
    obtain ⟨y,hy⟩:∃ y,b.s[i]? = some y:=⟨b.s[i]'(by omega),List.getElem?_eq_getElem _⟩
    have mx:=List.mem_of_getElem? hx
    have my:=List.mem_of_getElem? hy
    obtain ⟨n,hn⟩:=eqT x y (ha.sub x mx) (hb.sub y my) (hlt i x y hi' hx hy)
    exact ⟨n,fun x' y' hx' hy' => by rw [hx] at hx'; rw [hy] at hy'; cases hx'; cases hy'; exact hn⟩)
  obtain ⟨K,hK⟩:∃ K,N + M + a.s.length + 40=K:=⟨_,rfl⟩
  exact ⟨K + 1 + 1,eq_of (K + 1) (by omega) a b ha hb e1 e2 e3 e4 false (eqRunF K _ _ _ _ a.s b.s e5 ha.sl j x y hx hy (fun i x y hi hx hy h => hN i (List.mem_range.2 hi) x y hx hy K (by omega) 0 h) (fun h => hM K (by omega) 0 h) (by omega))⟩
end AE
end
section
open Ab Go TabE Sp E34 F1 Rw F5 F6 F7 F8 F43 F47 AP A1 A2 A6 A7 A9 A10 K3
namespace A12
abbrev ro (o:List Int) (c:Option Nat):El:=.mk 0 false 6 false o c true [] (some 0)
abbrev rt (s:List El) (c:Option Nat):El:=.mk 0 true 16 true [] (some 0) false s c
abbrev rb (o:List Int) (c:Option Nat):El:=.mk 0 false 3 false o c true [] (some 0)
theorem ref1 (K:Nat) (hK:30 ≤ K) (n x0 x1 x2 x3 x4 x5 x6 x7 x8 x9 x10 x11 x12 x13 x14 x15:Int) (p:El) (o:List Int) (c:Option Nat) (O:∀ h,aCall E K 0 74 [.agg [.int .u8 n,.int .u32 x0,.int .u32 x1,.int .u32 x2,.int .u32 x3,.int .u32 x4,.int .u32 x5,.int .u32 x6,.int .u32 x7,.int .u32 x8,.int .u32 x9,.int .u32 x10,.int .u32 x11,.int .u32 x12,.int .u32 x13,.int .u32 x14,.int .u32 x15]] h=some (.ret (.sl false (bs o) c),h)):Con E (K + 1) 23 [ag n x0 x1 x2 x3 x4 x5 x6 x7 x8 x9 x10 x11 x12 x13 x14 x15 false p] (rt [ro o c] none).av:=by
  have pl:=El.avs_pure p.s
  have kk:=El.avs_keys p.s
  have ko:=bs_kl o
  refine con_of E_fn23 (by simp [AV.pureL,AV.pure,El.avs_pure]) (Nat.le_of_ble_eq_true rfl) rfl rfl (g:=[]) ?_
  rw [body_23,c23]
  simp [Call.operands,O,pl,kk,ko,SG.sl_g,SG.sealG,SG.sealYG,El.av,El.avs]
theorem ref2 (K:Nat) (hK:30 ≤ K) (n x0 x1 x2 x3 x4 x5 x6 x7 x8 x9 x10 x11 x12 x13 x14 x15:Int) (p:El) (o:List Int) (c:Option Nat) (O:∀ h,aCall E K 0 74 [.agg [.int .u8 n,.int .u32 x0,.int .u32 x1,.int .u32 x2,.int .u32 x3,.int .u32 x4,.int .u32 x5,.int .u32 x6,.int .u32 x7,.int .u32 x8,.int .u32 x9,.int .u32 x10,.int .u32 x11,.int .u32 x12,.int .u32 x13,.int .u32 x14,.int .u32 x15]] h=some (.ret (.sl false (bs o) c),h)):Con E (K + 1) 23 [ag n x0 x1 x2 x3 x4 x5 x6 x7 x8 x9 x10 x11 x12 x13 x14 x15 true p] (rt [ro o c,p] none).av:=by
  have pl:=El.avs_pure p.s
  have kk:=El.avs_keys p.s
  have ko:=bs_kl o
  have kb:=bs_kl p.b
  refine con_of E_fn23 (by simp [AV.pureL,AV.pure,El.avs_pure]) (Nat.le_of_ble_eq_true rfl) rfl rfl (g:=[]) ?_
  rw [body_23,c23]
  have e:(rt [ro o c,p] none).av=.agg [.int .u8 0,.bool true,.int .u32 16,.sl true [] (some 0),.sl false [(ro o c).av,p.av] none]:=rfl
  rw [e,El.av_eq p]
  simp [Call.operands,O,pl,kk,ko,kb,SG.sl_g,SG.sealG,SG.sealYG,El.av,El.avs]
theorem bits0 (f:Bool) (c:Option Nat):Con E 20 79 [.sl f [] c,.int .i64 0] (rb [0] (some 1)).av:=by
  refine con_of E_fn79 (by simp [AV.pureL,AV.pure]) (Nat.le_of_ble_eq_true rfl) rfl rfl (g:=[]) ?_
  rw [body_79,c79]
  simp [El.av,El.avs]
theorem bits (f:Bool) (c:Option Nat) (u:List Int) (m:Int) (hu:u ≠ []) (hl:u.length ≤ 1000) (m0:0 ≤ 8 * (u.length:Int) - m) (m1:8 * (u.length:Int) - m ≤ 7):Con E 20 79 [.sl f (bs u) c,.int .i64 m] (rb ((8 * (u.length:Int) - m) :: u) none).av:=by
  have w1:=w64' (8 * (u.length:Int)) (by omega) (by omega)
  have w2:=w64' (8 * (u.length:Int) - m) (by omega) (by omega)
  have w3:(8 * (u.length:Int) - m) % 256=8 * (u.length:Int) - m:=by omega
  have lu:=List.length_pos_iff.2 hu
  have f1:¬ u.length=0:=by omega
  have ku:=bs_kl u
  have cp:1 + u.length ≤ 70368744177664:=by omega
  have cp2:u.length + 1 ≤ 70368744177664:=by omega
  have cp3:u.length ≤ 70368744177663:=by omega
  refine con_of E_fn79 (by simp [AV.pureL,AV.pure]) (Nat.le_of_ble_eq_true rfl) rfl rfl (g:=[]) ?_
  rw [body_79,c79]
  simp [El.av,El.avs,w1,w2,w3,hu,f1,ku,cp,cp2,cp3]
theorem rkey (K:Nat) (hK:30 ≤ K) (n x0 x1 x2 x3 x4 x5 x6 x7 x8 x9 x10 x11 x12 x13 x14 x15:Int) (b:Bool) (p:El) (f:Bool) (u:List Int) (c:Option Nat) (m:Int) (y z:El) (A:∀ h,aCall E K 0 23 [ag n x0 x1 x2 x3 x4 x5 x6 x7 x8 x9 x10 x11 x12 x13 x14 x15 b p] h=some (.ret y.av,h)) (B:∀ h,aCall E K 0 79 [.sl f (bs u) c,.int .i64 m] h=some (.ret z.av,h)):Con E (K + 1) 31 [kg n x0 x1 x2 x3 x4 x5 x6 x7 x8 x9 x10 x11 x12 x13 x14 x15 b p f u c m] (rt [y,z] (some 2)).av:=by
  have pl:=El.avs_pure p.s
  have kk:=El.avs_keys p.s
  have ku:=bs_kl u
  refine con_of E_fn31 (by simp [AV.pureL,AV.pure,El.avs_pure]) (Nat.le_of_ble_eq_true rfl) rfl rfl (g:=[]) ?_
  rw [body_31,c31]
  have e:(rt [y,z] (some 2)).av=.agg [.int .u8 0,.bool true,.int .u32 16,.sl true [] (some 0),.sl false [y.av,z.av] (some 2)]:=rfl
  rw [e]
  rw [El.av_eq y] at A ⊢
  rw [El.av_eq z] at B ⊢
  simp [Call.operands,A,B,pl,kk,ku,El.avs_pure,SG.sl_g,SG.sealG,SG.sealYG,El.avs_keys]
end A12
end
section
open Ab Go TabE Sp E34 F1 Rw F5 F6 F7 F8 F43 F47 AP A1 A2 A6 A7 A9 A10 K3 A12
namespace A13
abbrev Eq_ (K:Nat) (p q:El) (v:Bool):Prop:=∀ h,aCall E K 0 80 [p.av,q.av] h=some (.ret (.bool v),h)
theorem same (K:Nat) (hK:30 ≤ K) (n x0 x1 x2 x3 x4 x5 x6 x7 x8 x9 x10 x11 x12 x13 x14 x15:Int) (b:Bool) (p q:El) (v:Bool) (e:Eq_ K p q v):Con E (K + 1) 32 [ag n x0 x1 x2 x3 x4 x5 x6 x7 x8 x9 x10 x11 x12 x13 x14 x15 b p,ag n x0 x1 x2 x3 x4 x5 x6 x7 x8 x9 x10 x11 x12 x13 x14 x15 b q] (.bool v):=by
  have pl:=El.avs_pure p.s
  have pq:=El.avs_pure q.s
  refine con_of E_fn32 (by simp [AV.pureL,AV.pure,El.avs_pure]) (Nat.le_of_ble_eq_true rfl) rfl rfl (g:=[]) ?_
  rw [body_32,c32]
  unfold Eq_ at e
  rw [El.av_eq p,El.av_eq q] at e
  cases v <;> cases b <;> simp [e,pl,pq,fitZ]
theorem sameB (n x0 x1 x2 x3 x4 x5 x6 x7 x8 x9 x10 x11 x12 x13 x14 x15:Int) (b:Bool) (p q:El):Con E 30 32 [ag n x0 x1 x2 x3 x4 x5 x6 x7 x8 x9 x10 x11 x12 x13 x14 x15 b p,ag n x0 x1 x2 x3 x4 x5 x6 x7 x8 x9 x10 x11 x12 x13 x14 x15 (!b) q] (.bool false):=by
  refine con_of E_fn32 (by simp [AV.pureL,AV.pure,El.avs_pure]) (Nat.le_of_ble_eq_true rfl) rfl rfl (g:=[]) ?_
  rw [body_32,c32]
  cases b <;> simp [fitZ]
theorem sameI (n a x n' a' x':Int) (b b':Bool) (p q:El) (h:¬ (n=n' ∧ a=a' ∧ x=x')):Con E 30 32 [ag n 1 2 840 a x 0 0 0 0 0 0 0 0 0 0 0 b p,ag n' 1 2 840 a' x' 0 0 0 0 0 0 0 0 0 0 0 b' q] (.bool false):=by
  refine con_of E_fn32 (by simp [AV.pureL,AV.pure,El.avs_pure]) (Nat.le_of_ble_eq_true rfl) rfl rfl (g:=[]) ?_
  rw [body_32,c32]
  by_cases h1:n=n'
  · by_cases h2:a=a'
    · have h3:¬ x=x':=fun q => h ⟨h1,h2,q⟩
      simp [fitZ,h1,h2,h3]
    · simp [fitZ,h1,h2]
  · simp [fitZ,h1]
abbrev As (K:Nat) (g h:AV) (v:Bool):Prop:=∀ hh,aCall E K 0 32 [g,h] hh=some (.ret (.bool v),hh)
theorem skey (K:Nat) (hK:30 ≤ K) (n x0 x1 x2 x3 x4 x5 x6 x7 x8 x9 x10 x11 x12 x13 x14 x15 n' y0 y1 y2 y3 y4 y5 y6 y7 y8 y9 y10 y11 y12 y13 y14 y15:Int) (b b':Bool) (p q:El) (f f':Bool) (u u':List Int) (c c':Option Nat) (m m':Int) (hu:isB u) (hu':isB u') (v:Bool) (A:As K (ag n x0 x1 x2 x3 x4 x5 x6 x7 x8 x9 x10 x11 x12 x13 x14 x15 b p) (ag n' y0 y1 y2 y3 y4 y5 y6 y7 y8 y9 y10 y11 y12 y13 y14 y15 b' q) v):Con E (K + 1) 33 [kg n x0 x1 x2 x3 x4 x5 x6 x7 x8 x9 x10 x11 x12 x13 x14 x15 b p f u c m,kg n' y0 y1 y2 y3 y4 y5 y6 y7 y8 y9 y10 y11 y12 y13 y14 y15 b' q f' u' c' m'] (.bool (v && (decide (m=m') && decide (u=u')))):=by
  have pl:=El.avs_pure p.s
  have pq:=El.avs_pure q.s
  have B:=AE.bytesEq f f' c c' u u' hu hu' K (by omega) 0
  refine con_of E_fn33 (by simp [AV.pureL,AV.pure,El.avs_pure]) (Nat.le_of_ble_eq_true rfl) rfl rfl (g:=[]) ?_
  rw [body_33,c33]
  unfold As at A
  cases v with
  | false => simp [A,pl,pq]
  | true =>
    by_cases h1:m=m'
    · by_cases h2:u=u'
      · simp [h2] at B
        simp [A,pl,pq,h1,h2,B]
      · simp [h2] at B
        simp [A,pl,pq,h1,h2,B]
    · simp [A,pl,pq,h1]
end A13
end
section
open Ab Go TabE Sp E34 F1 Rw F5 F6 F7 F8 F43 F47 AP A1 A2 A3 A6 A7
namespace A4
theorem same (K:Nat) (hK:60 ≤ K) (n x0 x1 x2 x3 x4 x5 x6 x7 x8 x9 x10 x11 x12 x13 x14 x15:Int) (b:Bool) (p q:El) (w:Int) (S:∀ h,aCall E K 0 20 [p.av,q.av] h=some (.ret (.int .i64 w),h)):Con E (K + 1) 18 [ag n x0 x1 x2 x3 x4 x5 x6 x7 x8 x9 x10 x11 x12 x13 x14 x15 b p,ag n x0 x1 x2 x3 x4 x5 x6 x7 x8 x9 x10 x11 x12 x13 x14 x15 b q] (.int .i64 w):=by
  refine con_of E_fn18 (by simp [AV.pureL,AV.pure,El.avs_pure]) (Nat.le_of_ble_eq_true rfl) rfl rfl (g:=[]) ?_
  rw [body_18,c18]
  rw [El.av_eq p,El.av_eq q] at S
  simp [S,fitZ]
abbrev z:El:=E32.z0
structure Told (e:El) (n x0 x1 x2 x3 x4 x5 x6 x7 x8 x9 x10 x11 x12 x13 x14 x15:Int) (b:Bool) (p p':El) (q:List Int) (w:Int):Prop where
  of:∃ N,Con E N 15 [e.av] (.tup [ag n x0 x1 x2 x3 x4 x5 x6 x7 x8 x9 x10 x11 x12 x13 x14 x15 b p,fF q w])
  told:∃ N,Con E N 16 [e.av] (.tup [ag n x0 x1 x2 x3 x4 x5 x6 x7 x8 x9 x10 x11 x12 x13 x14 x15 b p',fR q w])
  pok:p.ok
  core:p.core=p'.core
  path:q.length ≤ 1
  good:w=0 → q=[] ∧ 0 ≤ n ∧ n < 256 ∧ (∀ x ∈ [x0,x1,x2,x3,x4,x5,x6,x7,x8,x9,x10,x11,x12,x13,x14,x15],0 ≤ x ∧ x < 4294967296) ∧ OP.okB n [x0,x1,x2,x3,x4,x5,x6,x7,x8,x9,x10,x11,x12,x13,x14,x15]=true ∧ (b=false → p=z) ∧ (bld n [x0,x1,x2,x3,x4,x5,x6,x7,x8,x9,x10,x11,x12,x13,x14,x15] b p).ok ∧ (bld n [x0,x1,x2,x3,x4,x5,x6,x7,x8,x9,x10,x11,x12,x13,x14,x15] b p).core=e.core ∧ Wd p ∧ E31.Nn p ∧ E33.Sh p ∧ (chk e.core 1 0 0).1=0
  bad:w ≠ 0 → n=0 ∧ b=false ∧ p=z ∧ p'=z ∧ [x0,x1,x2,x3,x4,x5,x6,x7,x8,x9,x10,x11,x12,x13,x14,x15]=List.replicate 16 0
theorem z_ok:z.ok:=by rw [El.ok_eq]; exact ⟨by simp [z,E32.z0,El.c],by simp [z,E32.z0,El.n],by simp [z,E32.z0,El.b,isB],by simp [z,E32.z0,El.b],by simp [z,E32.z0,El.s],fun y hy => by simp [z,E32.z0,El.s] at hy⟩
theorem cl_wd:∀ e:El,Wd e → Wd (clo e):=by
  refine El.ind fun e ih h => ?_
  obtain ⟨_,h1,h2⟩:=h
  rw [cl_eq]
  refine .mk _ (by simp only [El.s,List.length_map]; exact h1) fun x hx => ?_
  simp only [El.s] at hx
  obtain ⟨y,hy,rfl⟩:=List.mem_map.1 hx
  exact ih y hy (h2 y hy)
theorem cl_nn:∀ e:El,E31.Nn e → E31.Nn (clo e):=by
  refine El.ind fun e ih h => ?_
  obtain ⟨_,h1,h2,h3⟩:=h
  rw [cl_eq]
  refine .mk _ (by simpa only [El.fb,El.b] using h1) (by simp [El.fs]) fun x hx => ?_
  simp only [El.s] at hx
  obtain ⟨y,hy,rfl⟩:=List.mem_map.1 hx
  exact ih y hy (h3 y hy)
theorem cl_sh:∀ e:El,E33.Sh e → E33.Sh (clo e):=by
  refine El.ind fun e ih h => ?_
  obtain ⟨_,h1,h2,h3⟩:=h
  rw [cl_eq]
  refine .mk _ (by simpa only [El.b] using h1) (by simp only [El.s,List.length_map]; exact h2) fun x hx => ?_
  simp only [El.s] at hx
  obtain ⟨y,hy,rfl⟩:=List.mem_map.1 hx
  exact ih y hy (h3 y hy)
theorem z_wd:Wd z:=.mk _ (by simp [z,E32.z0,El.s]) fun x hx => by simp [z,E32.z0,El.s] at hx
theorem z_nn:E31.Nn z:=.mk _ (by simp [z,E32.z0,El.b]) (by simp [z,E32.z0,El.s]) fun x hx => by simp [z,E32.z0,El.s] at hx
theorem z_sh:E33.Sh z:=.mk _ (by simp [z,E32.z0,El.b]) (by simp [z,E32.z0,El.s]) fun x hx => by simp [z,E32.z0,El.s] at hx
theorem both (e:El) (he:e.ok) (wd:Wd e) (nn:E31.Nn e) (sh:E33.Sh e) (hl:e.s.length ≤ 1000) (hb:∀ x ∈ e.s,x.b.length ≤ 1000):∃ n x0 x1 x2 x3 x4 x5 x6 x7 x8 x9 x10 x11 x12 x13 x14 x15 b p p' q w,Told e n x0 x1 x2 x3 x4 x5 x6 x7 x8 x9 x10 x11 x12 x13 x14 x15 b p p' q w:=by
  obtain ⟨N0,C0⟩:=E10.check e he
  obtain ⟨_,_,wds⟩:=wd
  obtain ⟨_,_,_,nns⟩:=nn
  obtain ⟨_,_,_,shs⟩:=sh
  have S:=fun k c (hk:70 ≤ k) => F8.sequence false c lA e tS (by omega) (by simp) k (by simp; omega) 0
  have S':=fun k c (hk:70 ≤ k) => F10.rsequence false c lA e tS (by omega) (by simp) k (by simp; omega) 0
  simp only [List.map,Fld.av,Fld.cells,tS] at S S'
  by_cases h0:(chk e.core 1 0 0).1=0
  case neg => exact ⟨0,0,0,0,0,0,0,0,0,0,0,0,0,0,0,0,0,false,z,z,[],_,⟨⟨_,A2.chk (N0 + 100) (by omega) e _ h0 (C0 _ (by omega) 0)⟩,⟨_,A3.chk (N0 + 100) (by omega) e _ h0 (C0 _ (by omega) 0)⟩,z_ok,rfl,by simp,fun h => absurd h h0,fun _ => ⟨rfl,rfl,rfl,rfl,rfl⟩⟩⟩
  have hv:=vld_of _ _ _ _ h0
  rw [h0] at C0
  have hvs:∀ x ∈ e.s,vld x.core:=by rw [vld_eq] at hv; exact vlds_all.1 hv.2.2.2
  have hB:∀ x ∈ e.s,isB x.b:=fun x hx => (he.sub x hx).bb
  cases hq:sq e tS lA with
  | inr q =>
    obtain ⟨er,p⟩:=q
    rw [hq] at S S'
    have hbad:=F11.sq_bad hq
    exact ⟨0,0,0,0,0,0,0,0,0,0,0,0,0,0,0,0,0,false,z,z,p,er,⟨⟨_,A2.seq (N0 + 100) (by omega) e p er hbad.1 (C0 _ (by omega) 0) fun c => S _ c (by omega)⟩,⟨_,A3.seq (N0 + 100) (by omega) e p er hbad.1 (C0 _ (by omega) 0) fun c => S' _ c (by omega)⟩,z_ok,rfl,by omega,fun h => absurd h hbad.1,fun _ => ⟨rfl,rfl,rfl,rfl,rfl⟩⟩⟩
  | inl o =>
    rw [hq] at S S'
    obtain ⟨ht,c2⟩:=casesA e o hq
    have G:∀ x ∈ e.s,∃ n x0 x1 x2 x3 x4 x5 x6 x7 x8 x9 x10 x11 x12 x13 x14 x15 w,OH.get x.b=(n,[x0,x1,x2,x3,x4,x5,x6,x7,x8,x9,x10,x11,x12,x13,x14,x15],w) ∧ ∃ N,Con E N 66 [.sl x.fb (bs x.b) x.cb] (.tup [.agg [.int .u8 n,.int .u32 x0,.int .u32 x1,.int .u32 x2,.int .u32 x3,.int .u32 x4,.int .u32 x5,.int .u32 x6,.int .u32 x7,.int .u32 x8,.int .u32 x9,.int .u32 x10,.int .u32 x11,.int .u32 x12,.int .u32 x13,.int .u32 x14,.int .u32 x15],.int .i64 w]):=fun x hx => by
      obtain ⟨N,g⟩:=Q22.get x.fb x.cb x.b (fun y hy => hB x hx y hy) (hb x hx)
      have gl:=OH.get_len x.b
      obtain ⟨x0,x1,x2,x3,x4,x5,x6,x7,x8,x9,x10,x11,x12,x13,x14,x15,hxs⟩:=l16 _ gl
      refine ⟨(OH.get x.b).1,x0,x1,x2,x3,x4,x5,x6,x7,x8,x9,x10,x11,x12,x13,x14,x15,(OH.get x.b).2.2,?_,N,?_⟩
      · rw [← hxs]
      · rw [hxs] at g; exact g
    rcases c2 with ⟨x,hs,rfl,hx⟩ | ⟨x,y,hs,rfl,hx⟩
    · have mx:x ∈ e.s:=by rw [hs]; simp
      obtain ⟨n,x0,x1,x2,x3,x4,x5,x6,x7,x8,x9,x10,x11,x12,x13,x14,x15,w,hg,N1,G1⟩:=G x mx
      obtain ⟨k,hk⟩:∃ k,N0 + N1 + 100=k:=⟨_,rfl⟩
      have C:=C0 (k + 10) (by omega) 0
      have B:=G1 (k + 10) (by omega) 0
      by_cases hw:w=0
      · subst hw
        have ok:=OH.get_ok x.b (hB x mx) (by rw [hg])
        rw [hg] at ok
        simp only at ok
        obtain ⟨o1,o2,o3,o4,o5,o6⟩:=ok
        have lo:(lf (OP.octs n [x0,x1,x2,x3,x4,x5,x6,x7,x8,x9,x10,x11,x12,x13,x14,x15])).ok:=lf_ok _ (by rw [o2]; exact hB x mx) (by rw [o2]; exact (he.sub x mx).bl)
        refine ⟨n,x0,x1,x2,x3,x4,x5,x6,x7,x8,x9,x10,x11,x12,x13,x14,x15,false,z,z,[],0,⟨⟨_,A2.ok1 k (by omega) e x n x0 x1 x2 x3 x4 x5 x6 x7 x8 x9 x10 x11 x12 x13 x14 x15 hs C (fun c => S _ c (by omega)) B⟩,⟨_,A3.ok1 k (by omega) e x n x0 x1 x2 x3 x4 x5 x6 x7 x8 x9 x10 x11 x12 x13 x14 x15 hs C (fun c => S' _ c (by omega)) B⟩,z_ok,rfl,by simp,fun _ => ⟨rfl,by omega,by omega,o4,o1,fun _ => rfl,?_,?_,z_wd,z_nn,z_sh,h0⟩,fun h => absurd rfl h⟩⟩
        · exact tp_ok _ _ (fun u hu => by rw [List.mem_singleton.1 hu]; exact lo) (by simp)
        · exact core_of e hv ht _ _ (by rw [hs,El.cores_map,El.cores_map]; simp [lf_core x _ (hvs x mx) hx o2])
      · exact ⟨0,0,0,0,0,0,0,0,0,0,0,0,0,0,0,0,0,false,z,z,[0],w,⟨⟨_,A2.get1 k (by omega) e x n x0 x1 x2 x3 x4 x5 x6 x7 x8 x9 x10 x11 x12 x13 x14 x15 w hw hs C (fun c => S _ c (by omega)) B⟩,⟨_,A3.get1 k (by omega) e x n x0 x1 x2 x3 x4 x5 x6 x7 x8 x9 x10 x11 x12 x13 x14 x15 w hw hs C (fun c => S' _ c (by omega)) B⟩,z_ok,rfl,by simp,fun h => absurd h hw,fun _ => ⟨rfl,rfl,rfl,rfl,rfl⟩⟩⟩
    · have mx:x ∈ e.s:=by rw [hs]; simp
      have my:y ∈ e.s:=by rw [hs]; simp
      obtain ⟨n,x0,x1,x2,x3,x4,x5,x6,x7,x8,x9,x10,x11,x12,x13,x14,x15,w,hg,N1,G1⟩:=G x mx
      obtain ⟨N2,C2⟩:=A1.clone y (wds y my) (nns y my) (shs y my)
      obtain ⟨k,hk⟩:∃ k,N0 + N1 + N2 + 100=k:=⟨_,rfl⟩
      have C:=C0 (k + 10) (by omega) 0
      have B:=G1 (k + 10) (by omega) 0
      by_cases hw:w=0
      · subst hw
        have ok:=OH.get_ok x.b (hB x mx) (by rw [hg])
        rw [hg] at ok
        simp only at ok
        obtain ⟨o1,o2,o3,o4,o5,o6⟩:=ok
        have lo:(lf (OP.octs n [x0,x1,x2,x3,x4,x5,x6,x7,x8,x9,x10,x11,x12,x13,x14,x15])).ok:=lf_ok _ (by rw [o2]; exact hB x mx) (by rw [o2]; exact (he.sub x mx).bl)
        refine ⟨n,x0,x1,x2,x3,x4,x5,x6,x7,x8,x9,x10,x11,x12,x13,x14,x15,true,clo y,y,[],0,⟨⟨_,A2.ok2 k (by omega) e x y n x0 x1 x2 x3 x4 x5 x6 x7 x8 x9 x10 x11 x12 x13 x14 x15 hs C (fun c => S _ c (by omega)) B (C2 _ (by omega) 0)⟩,⟨_,A3.ok2 k (by omega) e x y n x0 x1 x2 x3 x4 x5 x6 x7 x8 x9 x10 x11 x12 x13 x14 x15 hs C (fun c => S' _ c (by omega)) B⟩,cl_ok y (he.sub y my),cl_core y,by simp,fun _ => ⟨rfl,by omega,by omega,o4,o1,fun h => (by cases h),?_,?_,cl_wd y (wds y my),cl_nn y (nns y my),cl_sh y (shs y my),h0⟩,fun h => absurd rfl h⟩⟩
        · refine tp_ok _ _ (fun u hu => ?_) (by simp)
          rcases List.mem_cons.1 hu with rfl | hu
          · exact lo
          · rw [List.mem_singleton.1 hu]; exact cl_ok _ (cl_ok y (he.sub y my))
        · exact core_of e hv ht _ _ (by rw [hs,El.cores_map,El.cores_map]; simp [lf_core x _ (hvs x mx) hx o2,cl_core])
      · exact ⟨0,0,0,0,0,0,0,0,0,0,0,0,0,0,0,0,0,false,z,z,[0],w,⟨⟨_,A2.get2 k (by omega) e x y n x0 x1 x2 x3 x4 x5 x6 x7 x8 x9 x10 x11 x12 x13 x14 x15 w hw hs C (fun c => S _ c (by omega)) B⟩,⟨_,A3.get2 k (by omega) e x y n x0 x1 x2 x3 x4 x5 x6 x7 x8 x9 x10 x11 x12 x13 x14 x15 w hw hs C (fun c => S' _ c (by omega)) B⟩,z_ok,rfl,by simp,fun h => absurd h hw,fun _ => ⟨rfl,rfl,rfl,rfl,rfl⟩⟩⟩
end A4
end
section
open Ab Go TabE Sp FW
namespace Q20
theorem op {run:RunF} {slot:Nat} {cs:List AV} {d l r l':Int} {own:Heap} (hp:AV.pureL cs=true)
    (hr:run 13 [.agg cs,.ptr (0,0,0) 0,.int .i64 d] [((0,0,0),bx [.int .i64 l])]=some (.ret (.int .i64 r),[((0,0,0),bx [.int .i64 l'])])) :
    opened [false,true,false] true run slot 13 [.agg cs,.ptr (0,0,0) 0,.int .i64 d] (((0,0,0),bx [.int .i64 l]) :: own)=some (.ret (.int .i64 r),((0,0,0),bx [.int .i64 l']) :: own):=by
  have e1:∀ h,sealM (sealA 20) [false,true,false] h [.agg cs,.ptr (0,0,0) 0,.int .i64 d]=some ([.agg cs,.ptr (0,0,0) 0,.int .i64 d],h):=fun h => by
    simp [sealM,sl_agg,sl_int,hp]
  have k1:AV.keysL cs=[]:=AV.keysL_pure _ hp
  have r1:∀ φ,AV.rnL φ cs=cs:=fun φ => rnL_pure cs hp
  unfold opened
  rw [e1]
  have e2:AV.keysL [.agg cs,.ptr (0,0,0) 0,.int .i64 d]=[(0,0,0)]:=by simp [AV.keysL,AV.keys,k1]
  simp only [e2]
  have e3:dd (reach (((0,0,0),bx [.int .i64 l]) :: own) 3 [(0,0,0)])=[(0,0,0)]:=by kernel_rfl
  rw [e3]
  unfold lendA
  have e4:lendH (((0,0,0),bx [.int .i64 l]) :: own) (inK [(0,0,0)]) [(0,0,0)]=some [((0,0,0),bx [.int .i64 l])]:=by kernel_rfl
  rw [e4]
  simp only [e2]
  rw [if_pos ⟨by kernel_rfl,by kernel_rfl⟩]
  have e5:AV.rnL (inK [(0,0,0)]) [.agg cs,.ptr (0,0,0) 0,.int .i64 d]=[.agg cs,.ptr (0,0,0) 0,.int .i64 d]:=by simp [AV.rnL,AV.rn,r1]; rfl
  rw [e5,hr]
  show backR [(0,0,0)] slot (((0,0,0),bx [.int .i64 l]) :: own) true (some (.ret (.int .i64 r),[((0,0,0),bx [.int .i64 l'])]))=some (.ret (.int .i64 r),((0,0,0),bx [.int .i64 l']) :: own)
  kernel_rfl
def b:Code:=lp c13 0
abbrev S (e:El) (d:Int) (i:Nat) (l:Int):St:=⟨[(1,.ptr (0,0,0) 0),(2,.int .i64 d),(3,.ptr (1,3,0) 0),(7,.int .i64 (i:Int))],[((0,0,0),bx [.int .i64 l]),((1,3,0),bx (ec e))]⟩
theorem go (q k1:Nat) (e x:El) (d:Int) (i:Nat) (l l' r:Int) (hr:r ≠ 0) (hx:e.s[i]? = some x) (le:e.s.length ≤ 1000) (d0:0 ≤ d) (d1:d ≤ 100)
    (R:∀ own slot,opened [false,true,false] true (aRun E q) slot 13 [.agg (ec x),.ptr (0,0,0) 0,.int .i64 (d + 1)] (((0,0,0),bx [.int .i64 l]) :: own)=some (.ret (.int .i64 r),((0,0,0),bx [.int .i64 l']) :: own)):rndO fn13 b q k1 (S e d i l)=some (.normal,S e d (i + 1) l'):=by
  have hi:i < e.s.length:=(List.getElem?_eq_some_iff.1 hx).1
  have ix:=El.at_ e.fs e.cs e.s i x hx
  have w:=w64' ((i:Int) + 1) (by omega) (by omega)
  have w2:=w64' (d + 1) (by omega) (by omega)
  simp [b,lp,lps,c13,-indexAddrA,ix,w,w2,hi,R,hr]
abbrev Out0 (l:Int):AExit × St:=(.ret,⟨[(6,.int .i64 0)],[((0,0,0),bx [.int .i64 l])]⟩)
theorem bad (q k1:Nat) (e x:El) (d:Int) (i:Nat) (l l':Int) (hx:e.s[i]? = some x) (le:e.s.length ≤ 1000) (d0:0 ≤ d) (d1:d ≤ 100)
    (R:∀ own slot,opened [false,true,false] true (aRun E q) slot 13 [.agg (ec x),.ptr (0,0,0) 0,.int .i64 (d + 1)] (((0,0,0),bx [.int .i64 l]) :: own)=some (.ret (.int .i64 0),((0,0,0),bx [.int .i64 l']) :: own)):rndO fn13 b q k1 (S e d i l)=some (Out0 l'):=by
  have hi:i < e.s.length:=(List.getElem?_eq_some_iff.1 hx).1
  have ix:=El.at_ e.fs e.cs e.s i x hx
  have w2:=w64' (d + 1) (by omega) (by omega)
  simp [b,lp,lps,c13,-indexAddrA,ix,w2,hi,R]
theorem last (q k1:Nat) (e:El) (d l:Int):rndO fn13 b q k1 (S e d e.s.length l)=some (.exit 0,⟨[(1,.ptr (0,0,0) 0),(2,.int .i64 d),(3,.ptr (1,3,0) 0),(7,.int .i64 (e.s.length:Int)),(38,.bool false)],(S e d e.s.length l).h⟩):=by
  simp [b,lp,lps,c13]
abbrev Lp (K:Nat):=aLoop (aCode E (site fn13 (aRun E K)) (dcall (aRun E K)) K 1 fn13 b) (cleanS 1 ((firstReg b).bind fn13.head))
def En (e:El) (d:Int) (p:Int × Int):AExit × St:=if p.1=0 then Out0 p.2 else (.exit 0,⟨[(1,.ptr (0,0,0) 0),(2,.int .i64 d),(3,.ptr (1,3,0) 0),(7,.int .i64 (e.s.length:Int)),(38,.bool false)],(S e d e.s.length p.2).h⟩)
abbrev Fc (K:Nat) (x:El):Prop:=∀ d l:Int,0 ≤ d → d ≤ 21 → -5 ≤ l → l ≤ 100000 → aRun E K 13 [.agg (ec x),.ptr (0,0,0) 0,.int .i64 d] [((0,0,0),bx [.int .i64 l])]=some (.ret (.int .i64 (few 100 40 x.core l d).1),[((0,0,0),bx [.int .i64 (few 100 40 x.core l d).2])])
theorem loop (K:Nat) (e:El) (le:e.s.length ≤ 1000) (d:Int) (d0:0 ≤ d) (d1:d ≤ 20) (R:∀ x ∈ e.s,Fc K x):∀ (r:List El) (i k:Nat) (l:Int),e.s.drop i=r → i ≤ e.s.length → 0 ≤ l → l ≤ 100000 → r.length < k →
    Lp K k (S e d i l)=some (En e d (fews 100 40 (El.cores r) l d))
  | [],i,k,l,h1,hi,l0,l1,hk => by
    obtain ⟨k,rfl⟩:∃ j,k=j + 1:=⟨k - 1,by omega⟩
    have q:=congrArg List.length h1
    rw [List.length_drop,List.length_nil] at q
    obtain rfl:i=e.s.length:=by omega
    exact aLoop_end (last K K e d l) (fun h => by cases h)
  | x :: r,i,k,l,h1,hi,l0,l1,hk => by
    obtain ⟨k,rfl⟩:∃ j,k=j + 1:=⟨k - 1,by omega⟩
    have q:=congrArg List.length h1
    rw [List.length_drop,List.length_cons] at q
    have hx:e.s[i]? = some x:=by
      have:=congrArg (fun l => l[0]?) h1
      simpa [List.getElem?_drop] using this
    have hd:e.s.drop (i + 1)=r:=by
      have:=congrArg List.tail h1
      simpa [List.tail_drop] using this
    have R':=R x (List.mem_of_getElem? hx) (d + 1) l (by omega) (by omega) (by omega) l1
    have O:=fun own slot => op (slot:=slot) (own:=own) (by rfl) R'
    have lo:=few_le x.core 100 40 l (d + 1)
    rw [El.cores]
    unfold fews
    by_cases h0:(few 100 40 x.core l (d + 1)).1=0
    · rw [if_pos h0]
      rw [h0] at O
      exact aLoop_end (bad K K e x d i l _ hx le d0 (by omega) O) (fun h => by cases h)
    · rw [if_neg h0]
      unfold Lp
      rw [aLoop_succ (go K K e x d i l _ _ h0 hx le d0 (by omega) O)]
      have lp':=few_ok x.core 100 40 l (d + 1) h0
      exact loop K e le d d0 d1 R r (i + 1) k _ hd (by omega) (by omega) (by omega) (by simp at hk; omega)
theorem few_con:∀ e:El,e.ok → ∃ N,∀ K,N ≤ K → Fc K e:=by
  refine El.ind fun e ih he => ?_
  obtain ⟨N,hN⟩:=unif (P:=fun (x:El) (n:Nat) => ∀ K,n ≤ K → Fc K x) (fun x n m h hm K hK => h K (by omega)) e.s (fun x hx => ih x hx (he.sub x hx))
  refine ⟨N + 40 + 60,fun K' hK' d l d0 d1 l0 l1 => ?_⟩
  obtain ⟨K,rfl⟩:∃ K,K'=K + 1:=⟨K' - 1,by omega⟩
  rw [aRun_fn rfl E_fn13 rfl (Nat.le_of_ble_eq_true rfl),body_13,c13]
  rw [El.core_eq e]
  unfold few
  have w:=w64' (l - 1) (by omega) (by omega)
  have lv:=El.avs_len e.s
  have bl:=bs_len e.b
  have cl:(El.cores e.s).length=e.s.length:=by rw [El.cores_map,List.length_map]
  rw [cl]
  by_cases h1:l - 1 < 0
  · rw [if_pos (.inl h1)]
    simp [-s_round,w,h1,lv,bl]
  by_cases h2:20 < d
  · rw [if_pos (.inr (.inl h2))]
    simp [-s_round,w,h1,h2,lv,bl]
  by_cases h3:100 < e.b.length
  · have h3':(100:Int) < e.b.length:=by omega
    rw [if_pos (.inr (.inr (.inl h3)))]
    simp [-s_round,w,h1,h2,h3,h3',lv,bl]
  by_cases h4:40 < e.s.length
  · have h4':(40:Int) < e.s.length:=by omega
    have h3':¬ (100:Int) < e.b.length:=by omega
    rw [if_pos (.inr (.inr (.inr h4)))]
    simp [-s_round,w,h1,h2,h3,h4,h3',h4',lv,bl]
  have h3':¬ (100:Int) < e.b.length:=by omega
  have h4':¬ (40:Int) < e.s.length:=by omega
  rw [if_neg (by rintro (h | h | h | h) <;> contradiction)]
  have L:=loop K e (by omega) d d0 (by omega) (fun x hx => hN x hx K (by omega)) e.s 0 K (l - 1) rfl (by omega) (by omega) (by omega) (by omega)
  simp [Lp,b,lp,lps,c13,firstReg,S,bx,ec] at L
  have pk:=fun h => (fews_ok (El.cores e.s) 100 40 (l - 1) d (by omega) (by omega) h).2.2.2
  generalize fews 100 40 (El.cores e.s) (l - 1) d=p at L pk ⊢
  obtain ⟨p1,p2⟩:=p
  simp only [En] at L
  by_cases hp:p1=0
  · rw [if_pos hp] at L
    subst hp
    simp [-s_round,w,h1,h2,h3,h4,h3',h4',lv,bl,L]
  · rw [if_neg hp] at L
    obtain rfl:=pk hp
    simp [-s_round,w,h1,h2,h3,h4,h3',h4',lv,bl,L,hp]
end Q20
end
section
open Ab Go TabE Sp E34 F1 Rw F5 F6 F7 F8 F43 F47 AP A1 A2 A3 A4 A6 A7
namespace A8
theorem lives:Con E 200 14 [] (.bool true):=.of (g:=[]) rfl (by kernel_rfl)
theorem opk {run:RunF} {slot:Nat} {cs:List AV} {d l r l':Int} {h:Heap} {key:Key} (hp:AV.pureL cs=true) (hk:lookK h key=some (bx [.int .i64 l]))
    (hr:run 13 [.agg cs,.ptr (0,0,0) 0,.int .i64 d] [((0,0,0),bx [.int .i64 l])]=some (.ret (.int .i64 r),[((0,0,0),bx [.int .i64 l'])])) :
    opened [false,true,false] true run slot 13 [.agg cs,.ptr key 0,.int .i64 d] h=some (.ret (.int .i64 r),setK h key (bx [.int .i64 l'])):=by
  have e1:sealM (sealA 20) [false,true,false] h [.agg cs,.ptr key 0,.int .i64 d]=some ([.agg cs,.ptr key 0,.int .i64 d],h):=by
    simp [sealM,sl_agg,sl_int,hp]
  have k1:AV.keysL cs=[]:=AV.keysL_pure _ hp
  have r1:∀ φ,AV.rnL φ cs=cs:=fun φ => rnL_pure cs hp
  unfold opened
  rw [e1]
  have e2:AV.keysL [.agg cs,.ptr key 0,.int .i64 d]=[key]:=by simp [AV.keysL,AV.keys,k1]
  simp only [e2]
  have e3:dd (reach h 3 [key])=[key]:=by simp [reach,hk,AV.keysL,AV.keys,dd]
  rw [e3]
  unfold lendA
  have e4:lendH h (inK [key]) [key]=some [((0,0,0),bx [.int .i64 l])]:=by simp [lendH,hk,inK,posK,AV.rnL,AV.rn]
  rw [e4]
  have e6:closedH h [key] [key]=true:=by simp [closedH,hk,AV.keysL,AV.keys]
  simp only [e2]
  rw [if_pos ⟨e6,by simp [inKs]⟩]
  have e5:AV.rnL (inK [key]) [.agg cs,.ptr key 0,.int .i64 d]=[.agg cs,.ptr (0,0,0) 0,.int .i64 d]:=by simp [AV.rnL,AV.rn,inK,posK,r1]
  rw [e5,hr]
  have e9:lentKs 1=[(0,0,0)]:=rfl
  have e7:dd (reach [((0,0,0),bx [AV.int .i64 l'])] 3 ([(0,0,0)] ++ []))=[(0,0,0)]:=by kernel_rfl
  have e10:closedH [((0,0,0),bx [AV.int .i64 l'])] [(0,0,0)] [(0,0,0)]=true:=by kernel_rfl
  have e8:AV.keysL [AV.int .i64 r]=[]:=rfl
  have e11:∀ g:Heap,sealA 20 g (AV.int .i64 r)=some (AV.int .i64 r,g):=fun g => rfl
  simp only [backR,if_true,e11,backV,Ab.back,List.length_singleton,e8,e9,e7,backA]
  rw [if_pos ⟨e10,by rfl,by rfl,by rfl⟩]
  simp [AV.rnL,AV.rn,outK,posK,putAll,lookK]
abbrev Fw (K:Nat) (e:El) (r l':Int):Prop:=aRun E K 13 [.agg (ec e),.ptr (0,0,0) 0,.int .i64 0] [((0,0,0),bx [.int .i64 40])]=some (.ret (.int .i64 r),[((0,0,0),bx [.int .i64 l'])])
theorem many (K:Nat) (hK:200 ≤ K) (e:El) (l':Int) (fw:Fw K e 0 l'):Con E (K + 1) 3 [e.av] (.bool true):=by
  have o:=fun slot h hk => opk (slot:=slot) (h:=h) (key:=(1,3,0)) (l:=40) (by rfl) hk fw
  have lv:=lives K hK 0
  refine con_ofO E_fn3 (by simp [AV.pureL,El.av_pure,AV.pure]) (Nat.le_of_ble_eq_true rfl) rfl (g:=[]) ?_
  rw [body_3,c3]
  simp [El.av_eq,o,lv]
theorem bad (K:Nat) (hK:200 ≤ K) (e:El) (r l':Int) (hr:r ≠ 0) (fw:Fw K e r l') (n x0 x1 x2 x3 x4 x5 x6 x7 x8 x9 x10 x11 x12 x13 x14 x15:Int) (b:Bool) (p p':El) (q:List Int) (w:Int) (hw:w ≠ 0) (hp:q.length ≤ 1)
    (A:∀ h,aCall E K 0 15 [e.av] h=some (.ret (.tup [ag n x0 x1 x2 x3 x4 x5 x6 x7 x8 x9 x10 x11 x12 x13 x14 x15 b p,fF q w]),h)) (B:∀ h,aCall E K 0 16 [e.av] h=some (.ret (.tup [ag n x0 x1 x2 x3 x4 x5 x6 x7 x8 x9 x10 x11 x12 x13 x14 x15 b p',fR q w]),h))
    (S:∀ h,aCall E K 0 18 [ag n x0 x1 x2 x3 x4 x5 x6 x7 x8 x9 x10 x11 x12 x13 x14 x15 b p,ag n x0 x1 x2 x3 x4 x5 x6 x7 x8 x9 x10 x11 x12 x13 x14 x15 b p'] h=some (.ret (.int .i64 1),h)):Con E (K + 1) 3 [e.av] (.bool true):=by
  have o:=fun slot h hk => opk (slot:=slot) (h:=h) (key:=(1,3,0)) (l:=40) (by rfl) hk fw
  have lv:=lives K hK 0
  have F:=fun f g d => A0.fault f g d q w (by omega) K (by omega) 0
  have np:=ns_pure q
  refine con_ofO E_fn3 (by simp [AV.pureL,El.av_pure,AV.pure]) (Nat.le_of_ble_eq_true rfl) rfl (g:=[]) ?_
  rw [body_3,c3]
  simp only [fF,fR,El.av_eq e] at A B
  simp [El.av_eq e,o,lv,A,B,S,F,hr,hw,np,El.avs_pure]
theorem good (K:Nat) (hK:200 ≤ K) (e:El) (r l':Int) (hr:r ≠ 0) (fw:Fw K e r l') (n x0 x1 x2 x3 x4 x5 x6 x7 x8 x9 x10 x11 x12 x13 x14 x15:Int) (b:Bool) (p p' y:El)
    (A:∀ h,aCall E K 0 15 [e.av] h=some (.ret (.tup [ag n x0 x1 x2 x3 x4 x5 x6 x7 x8 x9 x10 x11 x12 x13 x14 x15 b p,fF [] 0]),h)) (B:∀ h,aCall E K 0 16 [e.av] h=some (.ret (.tup [ag n x0 x1 x2 x3 x4 x5 x6 x7 x8 x9 x10 x11 x12 x13 x14 x15 b p',fR [] 0]),h))
    (S:∀ h,aCall E K 0 18 [ag n x0 x1 x2 x3 x4 x5 x6 x7 x8 x9 x10 x11 x12 x13 x14 x15 b p,ag n x0 x1 x2 x3 x4 x5 x6 x7 x8 x9 x10 x11 x12 x13 x14 x15 b p'] h=some (.ret (.int .i64 1),h)) (D:∀ h,aCall E K 0 19 [ag n x0 x1 x2 x3 x4 x5 x6 x7 x8 x9 x10 x11 x12 x13 x14 x15 b p] h=some (.ret (.tup [y.av,.int .i64 0]),h))
    (T:∀ h,aCall E K 0 20 [y.av,e.av] h=some (.ret (.int .i64 1),h)):Con E (K + 1) 3 [e.av] (.bool true):=by
  have o:=fun slot h hk => opk (slot:=slot) (h:=h) (key:=(1,3,0)) (l:=40) (by rfl) hk fw
  have lv:=lives K hK 0
  have F:=fun f g d => A0.fault f g d [] 0 (by simp) K (by simp; omega) 0
  refine con_ofO E_fn3 (by simp [AV.pureL,El.av_pure,AV.pure]) (Nat.le_of_ble_eq_true rfl) rfl (g:=[]) ?_
  rw [body_3,c3]
  simp only [fF,fR,El.av_eq e,El.av_eq y] at A B D T
  simp at A B F
  simp [El.av_eq e,El.av_eq y,o,lv,A,B,S,D,T,F,hr,El.avs_pure]
theorem fe_wd:∀ e:El,FW.Fe 100 40 e → Wd e:=by
  refine El.ind fun e ih h => ?_
  obtain ⟨_,h1,h2,h3⟩:=h
  exact .mk e (by omega) fun x hx => ih x hx (h3 x hx)
theorem fe_sh:∀ e:El,FW.Fe 100 40 e → E33.Sh e:=by
  refine El.ind fun e ih h => ?_
  obtain ⟨_,h1,h2,h3⟩:=h
  exact .mk e (by omega) (by omega) fun x hx => ih x hx (h3 x hx)
theorem law (e:El) (he:e.ok) (nn:E31.Nn e):∃ N,Con E N 3 [e.av] (.bool true):=by
  obtain ⟨Nf,few⟩:=Q20.few_con e he
  by_cases hq:(FW.few 100 40 e.core 40 0).1=0
  · have F:=few (Nf + 200) (by omega) 0 40 (by omega) (by omega) (by omega) (by omega)
    rw [hq] at F
    exact ⟨Nf + 200 + 1,many (Nf + 200) (by omega) e _ F⟩
  have fe:=FW.few_fe 100 40 e 40 0 hq
  have wd:=fe_wd e fe
  have sh:=fe_sh e fe
  obtain ⟨_,b1,s1,sub⟩:=fe
  obtain ⟨n,x0,x1,x2,x3,x4,x5,x6,x7,x8,x9,x10,x11,x12,x13,x14,x15,b,p,p',q,w,T⟩:=A4.both e he wd nn sh (by omega) (fun x hx => by obtain ⟨_,q,_,_⟩:=sub x hx; omega)
  obtain ⟨⟨N1,A⟩,⟨N2,B⟩,pok,pc,hp,hg,hb⟩:=T
  obtain ⟨N3,S0⟩:=F1.same p p' pok pc
  by_cases hw:w=0
  · subst hw
    obtain ⟨rfl,n0,n1,hx,hok,hz,bo,bc,wp,np,sp,c0⟩:=hg rfl
    obtain ⟨N4,D,_⟩:=A7.elem n x0 x1 x2 x3 x4 x5 x6 x7 x8 x9 x10 x11 x12 x13 x14 x15 b p ⟨n0,n1⟩ hx pok wp np sp bo
    obtain ⟨N5,T⟩:=F1.same (bld n [x0,x1,x2,x3,x4,x5,x6,x7,x8,x9,x10,x11,x12,x13,x14,x15] b p) e bo bc
    have e0:er n [x0,x1,x2,x3,x4,x5,x6,x7,x8,x9,x10,x11,x12,x13,x14,x15] b p=0:=by
      unfold er
      rw [if_neg (by simp [hok]),if_neg (by
        rintro ⟨rfl,q⟩
        rw [hz rfl] at q
        exact absurd q (by decide)),bc]
      exact c0
    rw [e0] at D
    simp only [if_true] at D
    obtain ⟨K,hK⟩:∃ K,Nf + N1 + N2 + N3 + N4 + N5 + 300=K:=⟨_,rfl⟩
    have F:=few K (by omega) 0 40 (by omega) (by omega) (by omega) (by omega)
    exact ⟨_,good K (by omega) e _ _ hq F n x0 x1 x2 x3 x4 x5 x6 x7 x8 x9 x10 x11 x12 x13 x14 x15 b p p' _ (A _ (by omega) 0) (B _ (by omega) 0) (A4.same (N3 + 100) (by omega) n x0 x1 x2 x3 x4 x5 x6 x7 x8 x9 x10 x11 x12 x13 x14 x15 b p p' 1 (S0 _ (by omega) 0) K (by omega) 0) (D _ (by omega) 0) (T _ (by omega) 0)⟩
  · obtain ⟨K,hK⟩:∃ K,Nf + N1 + N2 + N3 + 300=K:=⟨_,rfl⟩
    have F:=few K (by omega) 0 40 (by omega) (by omega) (by omega) (by omega)
    exact ⟨_,bad K (by omega) e _ _ hq F n x0 x1 x2 x3 x4 x5 x6 x7 x8 x9 x10 x11 x12 x13 x14 x15 b p p' q w hw hp (A _ (by omega) 0) (B _ (by omega) 0) (A4.same (N3 + 100) (by omega) n x0 x1 x2 x3 x4 x5 x6 x7 x8 x9 x10 x11 x12 x13 x14 x15 b p p' 1 (S0 _ (by omega) 0) K (by omega) 0)⟩
end A8
end
section
open Ab Go TabE Sp E34 F1 Rw F5 F6 F7 F8 F43 F47 AP A1 A2 A6 A7 A9 A10 K3 A12 A13
namespace A14
theorem main (K:Nat) (hK:200 ≤ K) (k:Int) (fp ps cp fb l cb) (un:Int) (k':Int) (fp' ps' cp' fb' l' cb') (un':Int) (n x0 x1 x2 x3 x4 x5 x6 x7 x8 x9 x10 x11 x12 x13 x14 x15 n' y0 y1 y2 y3 y4 y5 y6 y7 y8 y9 y10 y11 y12 y13 y14 y15:Int) (b b':Bool) (p q:El) (f f':Bool) (u u':List Int) (c c':Option Nat) (m m':Int) (ya yb za zb:El) (v1 v2:Bool)
    (a1:∀ h,aCall E K 0 29 [.agg (A9.ac k fp ps cp fb l cb un)] h=some (.ret (ag n x0 x1 x2 x3 x4 x5 x6 x7 x8 x9 x10 x11 x12 x13 x14 x15 b p),h))
    (a2:∀ h,aCall E K 0 29 [.agg (A9.ac k' fp' ps' cp' fb' l' cb' un')] h=some (.ret (ag n' y0 y1 y2 y3 y4 y5 y6 y7 y8 y9 y10 y11 y12 y13 y14 y15 b' q),h))
    (a3:∀ h,aCall E K 0 30 [.agg (A9.ac k fp ps cp fb l cb un)] h=some (.ret (kg n x0 x1 x2 x3 x4 x5 x6 x7 x8 x9 x10 x11 x12 x13 x14 x15 b p f u c m),h))
    (a4:∀ h,aCall E K 0 30 [.agg (A9.ac k' fp' ps' cp' fb' l' cb' un')] h=some (.ret (kg n' y0 y1 y2 y3 y4 y5 y6 y7 y8 y9 y10 y11 y12 y13 y14 y15 b' q f' u' c' m'),h))
    (r1:∀ h,aCall E K 0 23 [ag n x0 x1 x2 x3 x4 x5 x6 x7 x8 x9 x10 x11 x12 x13 x14 x15 b p] h=some (.ret ya.av,h)) (r2:∀ h,aCall E K 0 23 [ag n' y0 y1 y2 y3 y4 y5 y6 y7 y8 y9 y10 y11 y12 y13 y14 y15 b' q] h=some (.ret yb.av,h))
    (r3:∀ h,aCall E K 0 31 [kg n x0 x1 x2 x3 x4 x5 x6 x7 x8 x9 x10 x11 x12 x13 x14 x15 b p f u c m] h=some (.ret za.av,h)) (r4:∀ h,aCall E K 0 31 [kg n' y0 y1 y2 y3 y4 y5 y6 y7 y8 y9 y10 y11 y12 y13 y14 y15 b' q f' u' c' m'] h=some (.ret zb.av,h))
    (s1:∀ h,aCall E K 0 20 [ya.av,yb.av] h=some (.ret (.int .i64 (if v1 then 1 else 0)),h)) (s2:∀ h,aCall E K 0 20 [za.av,zb.av] h=some (.ret (.int .i64 (if v2 then 1 else 0)),h))
    (t1:As K (ag n x0 x1 x2 x3 x4 x5 x6 x7 x8 x9 x10 x11 x12 x13 x14 x15 b p) (ag n' y0 y1 y2 y3 y4 y5 y6 y7 y8 y9 y10 y11 y12 y13 y14 y15 b' q) v1) (t2:∀ h,aCall E K 0 33 [kg n x0 x1 x2 x3 x4 x5 x6 x7 x8 x9 x10 x11 x12 x13 x14 x15 b p f u c m,kg n' y0 y1 y2 y3 y4 y5 y6 y7 y8 y9 y10 y11 y12 y13 y14 y15 b' q f' u' c' m'] h=some (.ret (.bool v2),h))
    (t3:As K (ag n x0 x1 x2 x3 x4 x5 x6 x7 x8 x9 x10 x11 x12 x13 x14 x15 b p) (ag n x0 x1 x2 x3 x4 x5 x6 x7 x8 x9 x10 x11 x12 x13 x14 x15 b p) true) (t4:∀ h,aCall E K 0 33 [kg n' y0 y1 y2 y3 y4 y5 y6 y7 y8 y9 y10 y11 y12 y13 y14 y15 b' q f' u' c' m',kg n' y0 y1 y2 y3 y4 y5 y6 y7 y8 y9 y10 y11 y12 y13 y14 y15 b' q f' u' c' m'] h=some (.ret (.bool true),h)) :
    Con E (K + 1) 5 [.agg (A9.ac k fp ps cp fb l cb un),.agg (A9.ac k' fp' ps' cp' fb' l' cb' un')] (.bool true):=by
  have lv:=A8.lives K hK 0
  have pl:=El.avs_pure p.s
  have pq:=El.avs_pure q.s
  have kp:=El.avs_keys p.s
  have kq:=El.avs_keys q.s
  have ku:=bs_kl u
  have ku':=bs_kl u'
  refine con_of E_fn5 (by simp [AV.pureL,AV.pure]) (Nat.le_of_ble_eq_true rfl) rfl rfl (g:=[]) ?_
  rw [body_5,c5]
  unfold As at t1 t3
  rw [El.av_eq ya,El.av_eq yb] at s1
  rw [El.av_eq ya] at r1
  rw [El.av_eq yb] at r2
  rw [El.av_eq za,El.av_eq zb] at s2
  rw [El.av_eq za] at r3
  rw [El.av_eq zb] at r4
  cases v1 <;> cases v2 <;> simp at s1 s2 <;> simp [Call.operands,lv,a1,a2,a3,a4,r1,r2,r3,r4,s1,s2,t1,t2,t3,t4,pl,pq,kp,kq,ku,ku',El.avs_pure]
end A14
end
end
