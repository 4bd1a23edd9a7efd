/- Own work, no conditions. -/
import Derived.Test.YtbiildmljbcmeaaDoorF37
set_option maxRecDepth 20000
set_option linter.unusedSimpArgs false
set_option linter.unusedVariables false
set_option maxHeartbeats 16000000
section
open Ab Go TabE
attribute [local simp ↓] s_seq s_reg s_regd s_cond s_block s_cons s_consG s_regD
attribute [local simp] s_nil s_loop s_round s_lpn s_lpe s_lpr firstReg s_gt s_gf s_wb s_wu s_val s_valN s_skip s_calls s_callP s_cax lookR flatR pureKs s_ret s_rgx s_sqn s_sqr s_sqe s_cdb s_bkn s_bkr s_bke s_exit s_ret' s_skip' s_finr s_finn s_fin1 s_fix s_clean s_gc0 o_tmp o_int o_bool o_nil o_str o_fn o_nil' l_hit l_miss l_nil ol_nil ol_cons ol_some x_move x_assign x_pick pk_t pk_f x_bin bn_s x_un x_extract x_callF cl_no x_callB x_callBF frzV x_conv cvx convA frame0 binA intOp resL resA results1 sealLW AV.pure AV.pureL keepT x_alloc x_box bxx x_build bdx x_buildSlice bsx x_buildSliceF bsf x_load ldx x_store stx x_slice slx x_fieldAddr x_field x_index ixx x_indexAddr iax x_makeSlice msx x_makeSliceF msf x_nilCheck newK genOf setK lookK fillA writeL writeC readC conts TyI.mk1 sliceA boundsA boundsB fitsA numA indexAddrA fieldAddrA partA fieldA indexA appendA copyA builtinA AV.cells chunk gcH reach keysT keepK inKs AV.keys AV.keysL Ty.isAgg eq1 eqL convA.go ltI w_u8 w_u32 w_u64 w_i64 w_fdiv w_tdiv w_tmod IntKind.bits unA sc_int sc_bool sc_str sc_sl sc_ref sc_ptr sc_pel sc_nilp sc_fn sc_nilf sc_if sc_nili sc_agg sc_tup sc_mem bs_pure bs_kl bs_length bs_cells bs_all sl_row sealRow sealY sl_int sl_bool sl_str sl_sl sl_nilp sl_nilf sl_nili sl_pel sl_agg sl_tup sl_fn sl_if nat_1 bs_cons bs_nil i_beq i_bne x_mkF x_mkI x_tassert x_panic s_pan s_sqp s_bkp s_finp s_fixp s_lpp s_rgp s_retp s_site s_stxN s_stxO x_callT clx El.avs_len s_dyn0 s_rgy barOf dynChk footL dynOK disjK keysOp opVals Op.operands
section
open Ab Go TabE Sp E34 F1 F4 F5 F23 F31 F36
namespace F38
def bI:Code:=lp (lp c50 0) 0
abbrev SI (f:Bool) (ps:List Int) (c:Option Nat) (n:Int) (i:Nat) (s:Int) (j:Nat) (e:El):St:=⟨[(1,.sl f (ns ps) c),(2,.ptr (1,2,0) 0),(5,.int .i64 n),(6,.int .i64 (i:Int)),(7,.int .i64 s),(8,.int .i64 (j:Int))],[((1,2,0),bx (ec e))]⟩
theorem igo (q k1:Nat) (f ps c) (n:Int) (i:Nat) (s:Int) (j:Nat) (e x:El) (a:List Int) (ca:Option Nat) (le:e.s.length ≤ 1000) (hx:e.s[j]? = some x) (s0:0 ≤ s) (s1:s ≤ 1000000) (la:a.length ≤ 1000000) (A:∀ h,aCall E q 0 65 [x.av] h=some (.ret (.sl false (bs a) ca),h)):rnd fn50 bI q k1 (SI f ps c n i s j e)=some (.normal,SI f ps c n i (s + (a.length:Int)) (j + 1) e):=by
  have hi:j < e.s.length:=(List.getElem?_eq_some_iff.1 hx).1
  have ix:=El.at_ e.fs e.cs e.s j x hx
  have w:=w64' ((j:Int) + 1) (by omega) (by omega)
  have w2:=w64' (s + (a.length:Int)) (by omega) (by omega)
  have lv:=El.avs_len e.s
  have lb:=bs_len a
  rw [El.av_eq] at A
  simp [bI,lp,lps,c50,-indexAddrA,ix,w,w2,hi,lv,lb,A]
abbrev OutI (f:Bool) (ps:List Int) (c:Option Nat) (n:Int) (i:Nat) (s:Int) (e:El):AExit × St:=(.exit 2,⟨[(1,.sl f (ns ps) c),(2,.ptr (1,2,0) 0),(5,.int .i64 n),(6,.int .i64 (i:Int)),(7,.int .i64 s),(8,.int .i64 (e.s.length:Int)),(38,.bool false)],[((1,2,0),bx (ec e))]⟩)
theorem ilast (q k1:Nat) (f ps c) (n:Int) (i:Nat) (s:Int) (e:El):rnd fn50 bI q k1 (SI f ps c n i s e.s.length e)=some (OutI f ps c n i s e):=by
  have lv:=El.avs_len e.s
  simp [bI,lp,lps,c50,lv]
abbrev LpI (K:Nat):=aLoop (aCode E (aCall E K) (dcall (aRun E K)) K 1 fn50 bI) (cleanS 1 ((firstReg bI).bind fn50.head))
theorem iloop (K:Nat) (f ps c) (n:Int) (i:Nat) (e:El) (le:e.s.length ≤ 1000) (B:∀ x ∈ e.s,∃ c,∀ h,aCall E K 0 65 [x.av] h=some (.ret (.sl false (bs (enc x.core)) c),h)):∀ (r:List El) (j k:Nat) (s:Int),e.s.drop j=r → j ≤ e.s.length → 0 ≤ s → s + (encs (El.cores r)).length ≤ 1000000 → r.length < k →
    LpI K k (SI f ps c n i s j e)=some (OutI f ps c n i (s + (encs (El.cores r)).length) e)
  | [],j,k,s,h1,hi,n0,hn,hk => by
    obtain ⟨k,rfl⟩:∃ j,k=j + 1:=⟨k - 1,by omega⟩
    have q:=congrArg List.length h1
    rw [List.length_drop,List.length_nil] at q
    obtain rfl:j=e.s.length:=by omega
    have h:=aLoop_end (k:=k) (ilast K K f ps c n i s e) (fun h => by cases h)
    simpa [El.cores,encs] using h
  | x :: r,j,k,s,h1,hi,n0,hn,hk => by
    obtain ⟨k,rfl⟩:∃ j,k=j + 1:=⟨k - 1,by omega⟩
    have hx:e.s[j]? = some x:=by
      have:=congrArg (fun l => l[0]?) h1
      simpa [List.getElem?_drop] using this
    have hd:e.s.drop (j + 1)=r:=by
      have:=congrArg List.tail h1
      simpa [List.tail_drop] using this
    have hl:j < e.s.length:=(List.getElem?_eq_some_iff.1 hx).1
    have e1:((encs (El.cores (x :: r))).length:Int)=(enc x.core).length + (encs (El.cores r)).length:=by
      rw [El.cores,encs,List.length_append]; omega
    rw [e1] at hn ⊢
    obtain ⟨ca,A⟩:=B x (List.mem_of_getElem? hx)
    have h:=iloop K f ps c n i e le B r (j + 1) k (s + (enc x.core).length) hd (by omega) (by omega) (by omega) (by simp at hk; omega)
    unfold LpI at h ⊢
    rw [aLoop_succ (igo K K f ps c n i s j e x _ ca le hx n0 (by omega) (by omega) A),h,Int.add_assoc]
end F38
end
section
open Ab Go TabE Sp E34 F1 F4 F5 F23 F31 F36 F38
namespace F39
def bR:Code:=lp c50 0
abbrev SR (f:Bool) (ps:List Int) (c:Option Nat) (i:Nat) (n:Int) (e:El):St:=⟨[(1,.sl f (ns ps) c),(2,.ptr (1,2,0) 0),(5,.int .i64 n),(6,.int .i64 (i:Int))],[((1,2,0),bx (ec e))]⟩
theorem go (K:Nat) (f ps c) (i:Nat) (n:Int) (e x:El) (p:Nat) (hp:ps[i]? = some (p:Int)) (lp':ps.length ≤ 1000) (le:e.s.length ≤ 1000) (hx:e.s[p]? = some x) (n0:0 ≤ n) (n1:n ≤ 10000000) (a:List Int) (ca:Option Nat) (B:Int) (la:a.length ≤ 1000000) (b0:0 ≤ B) (b1:B ≤ 1000000) (A:∀ h,aCall E K 0 65 [e.av] h=some (.ret (.sl false (bs a) ca),h)) (L:LpI K K (SI f ps c n i 0 p e)=some (OutI f ps c n i B e)):rnd fn50 bR K K (SR f ps c i n e)=some (.normal,SR f ps c (i + 1) (n + ((a.length:Int) - B)) x):=by
  have hi:i < ps.length:=(List.getElem?_eq_some_iff.1 hp).1
  have hl:p < e.s.length:=(List.getElem?_eq_some_iff.1 hx).1
  have ip:=int_at f c ps i p hp
  have ix:=El.at_ e.fs e.cs e.s p x hx
  have w:=w64' ((i:Int) + 1) (by omega) (by omega)
  have w2:=w64' ((a.length:Int) - B) (by omega) (by omega)
  have w3:=w64' (n + ((a.length:Int) - B)) (by omega) (by omega)
  have lv:=El.avs_len e.s
  have ln:=ns_len ps
  have lb:=bs_len a
  have p1:¬ ((p:Int) < 0):=by omega
  have p2:¬ ((e.s.length:Int) ≤ p):=by omega
  have p3:¬ (e.s.length ≤ p):=by omega
  rw [El.av_eq e] at A
  simp [LpI,bI,lp,lps,c50,firstReg,SI,ec] at L
  simp [bR,lp,lps,c50,-s_round,-indexAddrA,ip,ix,w,w2,w3,hi,hl,lv,ln,lb,p1,p2,p3,A,L]
end F39
end
end
section
open Ab Go TabE Sp E34 F1 F4 F5 F17 F18
namespace F19
abbrev Fin (e:El) (key:Key) (ys:List Int):Option (AExit × St):=some (.exit 0,⟨[(1,.ptr (1,1,0) 0),(3,.ref key 0 ys.length none),(4,.int .i64 (e.s.length:Int)),(17,.bool false)],[((1,1,0),bx (ec e)),(key,⟨bs ys,true,true,false,1,false⟩)]⟩)
abbrev LpE (K:Nat):=aLoop (aCode E (site fn65 (aRun E K)) (dcall (aRun E K)) K 1 fn65 bE) (cleanS 1 ((firstReg bE).bind fn65.head))
theorem loop1 (K:Nat) (e:El) (le:e.s.length ≤ 9223372036854775807) (B:∀ x ∈ e.s,∃ c,∀ h,aCall E K 0 65 [x.av] h=some (.ret (.sl false (bs (enc x.core)) c),h)) :
    ∀ (rest:List El) (i m:Nat) (ys:List Int) (k:Nat),e.s.drop i=rest → i + rest.length=e.s.length → ys.length + (encs (El.cores rest)).length ≤ 2000000 → rest.length < k →
      ∃ m',LpE K k (SR e i (1,27,m) ys)=Fin e (1,27,m') (ys ++ encs (El.cores rest))
  | [],i,m,ys,k,h1,h2,hl,hk => by
    obtain ⟨k,rfl⟩:∃ j,k=j + 1:=⟨k - 1,by simp at hk; omega⟩
    obtain rfl:i=e.s.length:=by simpa using h2
    exact ⟨m,by unfold LpE; rw [aLoop_end (last K K e _ ys (.inr ⟨m,rfl⟩)) (by simp)]; simp [El.cores,encs]⟩
  | x :: rest,i,m,ys,k,h1,h2,hl,hk => by
    obtain ⟨k,rfl⟩:∃ j,k=j + 1:=⟨k - 1,by simp at hk; omega⟩
    have hx:e.s[i]? = some x:=by
      have:=congrArg (fun l => l[0]?) h1
      simpa [List.getElem?_drop] using this
    have hd:e.s.drop (i + 1)=rest:=by
      have:=congrArg List.tail h1
      simpa [List.tail_drop] using this
    obtain ⟨c,hB⟩:=B x (List.mem_of_getElem? hx)
    rw [El.cores,encs,List.length_append] at hl
    obtain ⟨m',h⟩:=loop1 K e le B rest (i + 1) (m + 1) (ys ++ enc x.core) k hd (by simp at h2; omega) (by rw [List.length_append]; omega) (by simp at hk; omega)
    refine ⟨m',?_⟩
    unfold LpE at h ⊢
    rw [aLoop_succ (next K K e x i m (enc x.core) ys c hx le (by omega) hB),h,El.cores,encs,List.append_assoc]
theorem loop0 (K:Nat) (e:El) (le:e.s.length ≤ 9223372036854775807) (B:∀ x ∈ e.s,∃ c,∀ h,aCall E K 0 65 [x.av] h=some (.ret (.sl false (bs (enc x.core)) c),h)) (hl:(encs (El.cores e.s)).length ≤ 2000000) (hk:e.s.length < K) (hs:e.s ≠ []) :
      ∃ m,LpE K K (S0 e 0)=Fin e (1,27,m) (encs (El.cores e.s)):=by
  obtain ⟨k,rfl⟩:∃ j,K=j + 1:=⟨K - 1,by omega⟩
  cases hs:e.s with
  | nil => contradiction
  | cons x rest =>
    have hx:e.s[0]? = some x:=by rw [hs]; rfl
    obtain ⟨c,hB⟩:=B x (List.mem_of_getElem? hx)
    rw [hs,El.cores,encs,List.length_append] at hl
    obtain ⟨m',h⟩:=loop1 (k + 1) e le B rest 1 0 (enc x.core) k (by rw [hs]; rfl) (by rw [hs]; simp; omega) hl (by rw [hs] at hk; simp at hk; omega)
    unfold LpE at h
    exact ⟨m',by rw [LpE,aLoop_succ (first (k + 1) (k + 1) e x 0 (enc x.core) c hx le (E17.enc_ne x) (by omega) hB),Nat.zero_add,h,El.cores,encs]⟩
theorem emp (K:Nat) (hK:0 < K) (e:El) (hs:e.s=[]):LpE K K (S0 e 0)=some (.exit 0,⟨[(1,.ptr (1,1,0) 0),(3,.sl true [] (some 0)),(4,.int .i64 0),(17,.bool false)],[((1,1,0),bx (ec e))]⟩):=by
  obtain ⟨K,rfl⟩:∃ k,K=k + 1:=⟨K - 1,by omega⟩
  have:=last0 (K + 1) (K + 1) e
  rw [hs] at this
  exact aLoop_end this (by simp)
theorem byt (K:Nat) (hK:0 < K) (e:El) (hs:e.s=[]):LpE K K (SR e 0 (1,12,0) e.b)=some (.exit 0,⟨[(1,.ptr (1,1,0) 0),(3,.ref (1,12,0) 0 e.b.length none),(4,.int .i64 0),(17,.bool false)],[((1,1,0),bx (ec e)),((1,12,0),⟨bs e.b,true,true,false,1,false⟩)]⟩):=by
  obtain ⟨K,rfl⟩:∃ k,K=k + 1:=⟨K - 1,by omega⟩
  have:=last (K + 1) (K + 1) e (1,12,0) e.b (.inl rfl)
  rw [hs] at this
  exact aLoop_end this (by simp)
end F19
end
section
open Ab Go TabE Sp E34 F1 F4 F5 F17 F18
namespace F19
theorem pBlo (e:El) (he:e.ok) (hv:vld e.core) (hl:(enc e.core).length ≤ 60000) (N:Nat) (hN:∀ x ∈ e.s,Con E N 65 [x.av] (.sl false (bs (enc x.core)) none)) (hs:¬ e.s=[]) (h31:e.n < 31):∃ N,Con E N 65 [e.av] (.sl false (bs (enc e.core)) none):=by
  obtain ⟨v1,v2,v3,v4⟩:=(vld_eq e).1 hv
  obtain ⟨t3,n3⟩:e.c ≤ 3 ∧ e.n ≤ 268435455:=by
    have:=v1; unfold tagE at this
    split at this
    · cases this
    · omega
  have tl:=tagO_len e.c e.k e.n
  have el:=enc_eq e
  obtain ⟨ct,hct⟩:∃ ct,e.b ++ encs (El.cores e.s)=ct:=⟨_,rfl⟩
  rw [hct] at el
  have lel:(enc e.core).length=(TG.tagO e.c e.k e.n).length + ((lenO (ct.length:Int)).length + ct.length):=by rw [el,List.length_append,List.length_append]
  have lct:ct.length=e.b.length + (encs (El.cores e.s)).length:=by rw [← hct,List.length_append]
  obtain ⟨K,hK⟩:∃ K,N + e.s.length + 60=K:=⟨_,rfl⟩
  obtain ⟨gc,G⟩:=dig e.n he.nb.1 (by omega)
  have G':=G K (by omega) 0
  refine ⟨K + 1,con_ofO E_fn65 (by simp [AV.pureL,El.av_pure]) (Nat.le_of_ble_eq_true rfl) rfl (g:=[]) ?_⟩
  rw [body_65,c65,el]
  have cc0:=he.cb.1
  have n0:=he.nb.1
  obtain ⟨K',rfl⟩:∃ K',K=K' + 4:=⟨K - 4,by omega⟩
  have tgl:e.n < 31 → TG.tagO e.c e.k e.n=[64 * e.c + (if e.k then 32 else 0) + e.n]:=fun h => by unfold TG.tagO; rw [if_pos h]
  have tgh:¬ e.n < 31 → TG.tagO e.c e.k e.n=(64 * e.c + (if e.k then 32 else 0) + 31) :: TG.grp e.n:=fun h => by unfold TG.tagO; rw [if_neg h]
  have gl:=tagO_len e.c e.k e.n
  have m0:31 ≤ e.n → (if 31 < e.n then (31:Int) else e.n)=31:=fun h => by split <;> omega
  have m1:e.n < 31 → (e.c * 64 + e.n) % 256=64 * e.c + e.n:=fun h => by omega
  have m2:e.n < 31 → (e.c * 64 + 32 + e.n) % 256=64 * e.c + 32 + e.n:=fun h => by omega
  have m3:(e.c * 64 + 31) % 256=64 * e.c + 31:=by omega
  have m4:(e.c * 64 + 32 + 31) % 256=64 * e.c + 32 + 31:=by omega
  have b0:¬ 31 ≤ e.n → ¬ 31 < e.n:=fun h => by omega
  have b1:¬ 31 ≤ e.n → ¬ 30 < e.n:=fun h => by omega
  have b2:31 ≤ e.n → 30 < e.n:=fun h => by omega
  have g0:TG.grp e.n ≠ [] ∧ (TG.grp e.n).length ≤ 4:=by unfold TG.grp; split <;> simp
  obtain ⟨gr,hgr⟩:∃ gr,TG.grp e.n=gr:=⟨_,rfl⟩
  rw [hgr] at G' tgh g0
  obtain ⟨g0,g4⟩:=g0
  have g1:0 < gr.length:=List.length_pos_iff.2 g0
  have e0:gr.length ≤ 70368744177664:=by omega
  have d0:ct.length ≤ 70368744177664:=by omega
  have gc0:gr.length + ct.length ≤ 70368744177664:=by omega
  have e1:gr.length ≤ 70368744177663:=by omega
  have c1:ct.length ≤ 70368744177663:=by omega
  have gc1:gr.length + ct.length ≤ 70368744177663:=by omega
  have e2:gr.length ≤ 70368744177662:=by omega
  have c2:ct.length ≤ 70368744177662:=by omega
  have gc2:gr.length + ct.length ≤ 70368744177662:=by omega
  have e3:gr.length ≤ 70368744177661:=by omega
  have c3:ct.length ≤ 70368744177661:=by omega
  have gc3:gr.length + ct.length ≤ 70368744177661:=by omega
  have e4:gr.length ≤ 70368744177660:=by omega
  have c4:ct.length ≤ 70368744177660:=by omega
  have gc4:gr.length + ct.length ≤ 70368744177660:=by omega
  have e5:gr.length ≤ 70368744177659:=by omega
  have c5:ct.length ≤ 70368744177659:=by omega
  have gc5:gr.length + ct.length ≤ 70368744177659:=by omega
  have e6:gr.length ≤ 70368744177658:=by omega
  have c6:ct.length ≤ 70368744177658:=by omega
  have gc6:gr.length + ct.length ≤ 70368744177658:=by omega
  have f1:¬ (1 + gr.length ≤ 1):=by omega
  have f2:1 + gr.length ≤ 70368744177664:=by omega
  have f3:1 + (gr.length + 1) ≤ 70368744177664:=by omega
  have f4:1 + (gr.length + (1 + ct.length)) ≤ 70368744177664:=by omega
  have f5:2 + ct.length ≤ 70368744177664:=by omega
  have f6:e.b.length ≤ 70368744177664:=by omega
  have f7:ct.length ≤ 70368744177664:=by omega
  have pl:∀ (l:List Int) (x:Int),AV.pureL (bs l ++ [AV.int .u8 x])=true:=fun l x => by rw [show bs l ++ [AV.int .u8 x]=bs (l ++ [x]) from (bs_append l [x]).symm]; exact bs_pure _
  have h1_:1 + ct.length ≤ 70368744177664:=by omega
  have hg1_:gr.length + 1 + ct.length ≤ 70368744177664:=by omega
  have h2_:2 + ct.length ≤ 70368744177664:=by omega
  have hg2_:gr.length + 2 + ct.length ≤ 70368744177664:=by omega
  have h3_:3 + ct.length ≤ 70368744177664:=by omega
  have hg3_:gr.length + 3 + ct.length ≤ 70368744177664:=by omega
  have h4_:4 + ct.length ≤ 70368744177664:=by omega
  have hg4_:gr.length + 4 + ct.length ≤ 70368744177664:=by omega
  have h5_:5 + ct.length ≤ 70368744177664:=by omega
  have hg5_:gr.length + 5 + ct.length ≤ 70368744177664:=by omega
  have hh2_:gr.length + 1 + 1 + ct.length ≤ 70368744177664:=by omega
  have hh3_:gr.length + 1 + 1 + 1 + ct.length ≤ 70368744177664:=by omega
  have hh4_:gr.length + 1 + 1 + 1 + 1 + ct.length ≤ 70368744177664:=by omega
  have hh5_:gr.length + 1 + 1 + 1 + 1 + 1 + ct.length ≤ 70368744177664:=by omega
  have j2_:(ct.length + 1 + 1=2 + ct.length)=True:=eq_true (by omega)
  have j3_:(ct.length + 1 + 1 + 1=3 + ct.length)=True:=eq_true (by omega)
  have j4_:(ct.length + 1 + 1 + 1 + 1=4 + ct.length)=True:=eq_true (by omega)
  have k1_:(gr.length + (ct.length + 1) + 1=gr.length + 1 + 1 + ct.length)=True:=eq_true (by omega)
  have k2_:(gr.length + (ct.length + 1 + 1) + 1=gr.length + 1 + 1 + 1 + ct.length)=True:=eq_true (by omega)
  have k3_:(gr.length + (ct.length + 1 + 1 + 1) + 1=gr.length + 1 + 1 + 2 + ct.length)=True:=eq_true (by omega)
  have k4_:(gr.length + (ct.length + 1 + 1 + 1) + 1=gr.length + 1 + 1 + 1 + 1 + ct.length)=True:=eq_true (by omega)
  have k5_:gr.length + 1 + 1 + 2 + ct.length ≤ 70368744177664:=by omega
  have k6_:gr.length + 1 + 1 + 3 + ct.length ≤ 70368744177664:=by omega
  have k7_:(gr.length + 1 + 1 + 2 ≤ 70368744177664)=True:=eq_true (by omega)
  have y0:(0:Int) ≤ ct.length:=by omega
  have le1:ct.length < 128 → lenO (ct.length:Int)=[(ct.length:Int)]:=fun h => by unfold lenO; rw [if_pos (by omega)]
  have le2:¬ ct.length < 128 → ct.length < 256 → lenO (ct.length:Int)=[129,(ct.length:Int)]:=fun h h' => by unfold lenO; rw [if_neg (by omega),if_pos (by omega)]
  have le3:¬ ct.length < 256 → lenO (ct.length:Int)=[130,(ct.length:Int) / 256,(ct.length:Int) % 256]:=fun h => by unfold lenO; rw [if_neg (by omega),if_neg (by omega),if_pos (by omega)]
  have n1:ct.length < 128 → ((ct.length:Int) < 128)=True:=fun h => eq_true (by omega)
  have n2:¬ ct.length < 128 → ((ct.length:Int) < 128)=False:=fun h => eq_false (by omega)
  have n3:ct.length < 256 → (ct.length:Int) % 256=ct.length:=fun h => by omega
  have n4:(ct.length:Int).tmod 256=(ct.length:Int) % 256:=Int.tmod_eq_emod_of_nonneg (by omega)
  have n5:(ct.length:Int).tdiv 256=(ct.length:Int) / 256:=Int.tdiv_eq_ediv_of_nonneg (by omega)
  have n6:(ct.length:Int) % 256 % 256=(ct.length:Int) % 256:=by omega
  have n7:ct.length < 256 → (ct.length:Int) / 256=0:=fun h => by omega
  have n8:¬ ct.length < 256 → (0 < (ct.length:Int) / 256)=True:=fun h => eq_true (by omega)
  have n9:((ct.length:Int) / 256).tmod 256=(ct.length:Int) / 256:=by rw [Int.tmod_eq_emod_of_nonneg (by omega)]; omega
  have n10:((ct.length:Int) / 256).tdiv 256=0:=by rw [Int.tdiv_eq_ediv_of_nonneg (by omega)]; omega
  have n11:(ct.length:Int) / 256 % 256=(ct.length:Int) / 256:=by omega
  have n12:=w64' ((ct.length:Int) / 256) (by omega) (by omega)
  have n13:=w64' ((ct.length:Int) % 256) (by omega) (by omega)
  have n14:ct ≠ [] → (0 < ct.length)=True:=fun h => eq_true (List.length_pos_iff.2 h)
  have hk:e.k=true:=by cases q:e.k; exact absurd (v3 q) hs; rfl
  have hb:=v2 hk
  have cte:encs (El.cores e.s)=ct:=by rw [← hct,hb]; rfl
  obtain ⟨m,L⟩:=loop0 (K' + 4) e he.sl (fun x hx => ⟨none,fun h => hN x hx (K' + 4) (by omega) 0 h⟩) (by omega) (by omega) hs
  rw [cte] at L
  have hc:ct ≠ []:=fun q => by
    have:=E17.enc_ne
    cases q2:e.s with
    | nil => exact hs q2
    | cons x r =>
      rw [q2,El.cores,encs] at cte
      rw [q] at cte
      exact E17.enc_ne x (List.append_eq_nil_iff.1 cte).1
  simp [LpE,bE,lp,lps,c65,firstReg,S0,ec,hb,bs_nil,hk] at L
  have h31':¬ 31 ≤ e.n:=by omega
  rw [tgl h31,hk]
  by_cases h1:ct.length < 128
  · rw [le1 h1]
    simp [El.av_eq,↓s_seq,↓s_reg,↓s_cond,↓s_block,↓s_cons,s_nil,s_loop,firstReg,s_val,s_rgx,s_sqn,s_cdb,s_bke,s_ret',s_skip',s_finr,s_fin1,s_fix,s_clean,o_tmp,o_int,o_nil,l_hit,l_miss,ol_nil,ol_cons,ol_some,x_move,x_assign,x_bin,bn_s,x_callB,x_conv,cvx,convA,frame0,binA,intOp,resL,resA,results1,AV.pure,AV.pureL,keepT,x_box,bxx,x_buildSlice,bsx,x_load,ldx,x_fieldAddr,newK,genOf,setK,lookK,fillA,writeL,writeC,readC,conts,TyI.mk1,fieldAddrA,appendA,copyA,builtinA,AV.cells,gcH,reach,keysT,keepK,inKs,AV.keys,AV.keysL,Ty.isAgg,w_u8,sc_int,sc_bool,sc_sl,sc_mem,bs_pure,bs_kl,bs_length,bs_all,sl_row,sealRow,sealY,bs_cons,bs_nil,hb,hk,L,b0,b1,m2,h31,h31',h1,n1,n3 (by omega),bs_kl,bs_pure,h2_,j2_]
  by_cases h2:ct.length < 256
  · rw [le2 h1 h2]
    simp [El.av_eq,↓s_seq,↓s_reg,↓s_cond,↓s_block,↓s_cons,s_nil,s_loop,firstReg,s_val,s_rgx,s_sqn,s_cdb,s_bke,s_skip',s_clean,o_tmp,o_int,o_nil,l_hit,l_miss,ol_nil,ol_cons,ol_some,x_move,x_assign,x_bin,bn_s,x_callB,x_conv,cvx,convA,frame0,binA,intOp,keepT,x_box,bxx,x_buildSlice,bsx,x_load,ldx,x_fieldAddr,newK,genOf,setK,lookK,fillA,writeL,writeC,readC,conts,TyI.mk1,fieldAddrA,appendA,copyA,builtinA,AV.cells,gcH,reach,keysT,keepK,inKs,AV.keys,AV.keysL,Ty.isAgg,w_u8,sc_int,sc_bool,sc_sl,bs_kl,bs_cons,bs_nil,hb,hk,L,b0,b1,m2,h31,h31',h1,n2,bs_kl]
    simp [↓s_seq,↓s_reg,↓s_cond,↓s_block,↓s_cons,s_nil,s_round,s_lpn,s_lpe,s_val,s_rgx,s_sqn,s_sqe,s_cdb,s_bkn,s_bke,s_exit,s_ret',s_skip',s_finr,s_fin1,s_fix,s_clean,o_tmp,o_int,l_hit,l_miss,ol_nil,ol_cons,ol_some,x_move,x_assign,x_bin,bn_s,x_callB,x_conv,cvx,convA,binA,intOp,resL,resA,results1,AV.pure,AV.pureL,keepT,x_buildSlice,bsx,newK,genOf,setK,lookK,fillA,writeL,writeC,conts,appendA,copyA,builtinA,AV.cells,gcH,reach,keysT,keepK,inKs,AV.keys,AV.keysL,Ty.isAgg,w_u8,w_i64,w_tdiv,w_tmod,sc_int,sc_mem,bs_pure,bs_kl,bs_length,bs_all,sl_row,sealRow,sealY,n3 h2,n7 h2,n14,bs_kl,bs_pure,hc,h3_,j3_,w_i64]
  · rw [le3 h2]
    simp [El.av_eq,↓s_seq,↓s_reg,↓s_cond,↓s_block,↓s_cons,s_nil,s_loop,firstReg,s_val,s_rgx,s_sqn,s_cdb,s_bke,s_skip',s_clean,o_tmp,o_int,o_nil,l_hit,l_miss,ol_nil,ol_cons,ol_some,x_move,x_assign,x_bin,bn_s,x_callB,x_conv,cvx,convA,frame0,binA,intOp,keepT,x_box,bxx,x_buildSlice,bsx,x_load,ldx,x_fieldAddr,newK,genOf,setK,lookK,fillA,writeL,writeC,readC,conts,TyI.mk1,fieldAddrA,appendA,copyA,builtinA,AV.cells,gcH,reach,keysT,keepK,inKs,AV.keys,AV.keysL,Ty.isAgg,w_u8,sc_int,sc_bool,sc_sl,bs_kl,bs_cons,bs_nil,hb,hk,L,b0,b1,m2,h31,h31',h1,n2,bs_kl]
    simp [↓s_seq,↓s_reg,↓s_cond,↓s_block,↓s_cons,s_nil,s_round,s_lpn,s_lpe,s_val,s_rgx,s_sqn,s_sqe,s_cdb,s_bkn,s_bke,s_exit,s_ret',s_skip',s_finr,s_fin1,s_fix,s_clean,o_tmp,o_int,l_hit,l_miss,ol_nil,ol_cons,ol_some,x_move,x_assign,x_bin,bn_s,x_callB,x_conv,cvx,convA,binA,intOp,resL,resA,results1,AV.pure,AV.pureL,keepT,x_buildSlice,bsx,newK,genOf,setK,lookK,fillA,writeL,writeC,conts,appendA,copyA,builtinA,AV.cells,gcH,reach,keysT,keepK,inKs,AV.keys,AV.keysL,Ty.isAgg,w_u8,w_i64,w_tdiv,w_tmod,sc_int,sc_mem,bs_pure,bs_kl,bs_length,bs_all,sl_row,sealRow,sealY,h2,n6,n8,n9,n10,n11,n12,n14,bs_kl,bs_pure,hc,h4_,j4_,w_i64]
end F19
end
section
open Ab Go TabE Sp E34 F1 F4 F5 F17 F18
namespace F19
theorem pBhi (e:El) (he:e.ok) (hv:vld e.core) (hl:(enc e.core).length ≤ 60000) (N:Nat) (hN:∀ x ∈ e.s,Con E N 65 [x.av] (.sl false (bs (enc x.core)) none)) (hs:¬ e.s=[]) (h31:¬ e.n < 31):∃ N,Con E N 65 [e.av] (.sl false (bs (enc e.core)) none):=by
  obtain ⟨v1,v2,v3,v4⟩:=(vld_eq e).1 hv
  obtain ⟨t3,n3⟩:e.c ≤ 3 ∧ e.n ≤ 268435455:=by
    have:=v1; unfold tagE at this
    split at this
    · cases this
    · omega
  have tl:=tagO_len e.c e.k e.n
  have el:=enc_eq e
  obtain ⟨ct,hct⟩:∃ ct,e.b ++ encs (El.cores e.s)=ct:=⟨_,rfl⟩
  rw [hct] at el
  have lel:(enc e.core).length=(TG.tagO e.c e.k e.n).length + ((lenO (ct.length:Int)).length + ct.length):=by rw [el,List.length_append,List.length_append]
  have lct:ct.length=e.b.length + (encs (El.cores e.s)).length:=by rw [← hct,List.length_append]
  obtain ⟨K,hK⟩:∃ K,N + e.s.length + 60=K:=⟨_,rfl⟩
  obtain ⟨gc,G⟩:=dig e.n he.nb.1 (by omega)
  have G':=G K (by omega) 0
  refine ⟨K + 1,con_ofO E_fn65 (by simp [AV.pureL,El.av_pure]) (Nat.le_of_ble_eq_true rfl) rfl (g:=[]) ?_⟩
  rw [body_65,c65,el]
  have cc0:=he.cb.1
  have n0:=he.nb.1
  obtain ⟨K',rfl⟩:∃ K',K=K' + 4:=⟨K - 4,by omega⟩
  have tgl:e.n < 31 → TG.tagO e.c e.k e.n=[64 * e.c + (if e.k then 32 else 0) + e.n]:=fun h => by unfold TG.tagO; rw [if_pos h]
  have tgh:¬ e.n < 31 → TG.tagO e.c e.k e.n=(64 * e.c + (if e.k then 32 else 0) + 31) :: TG.grp e.n:=fun h => by unfold TG.tagO; rw [if_neg h]
  have gl:=tagO_len e.c e.k e.n
  have m0:31 ≤ e.n → (if 31 < e.n then (31:Int) else e.n)=31:=fun h => by split <;> omega
  have m1:e.n < 31 → (e.c * 64 + e.n) % 256=64 * e.c + e.n:=fun h => by omega
  have m2:e.n < 31 → (e.c * 64 + 32 + e.n) % 256=64 * e.c + 32 + e.n:=fun h => by omega
  have m3:(e.c * 64 + 31) % 256=64 * e.c + 31:=by omega
  have m4:(e.c * 64 + 32 + 31) % 256=64 * e.c + 32 + 31:=by omega
  have b0:¬ 31 ≤ e.n → ¬ 31 < e.n:=fun h => by omega
  have b1:¬ 31 ≤ e.n → ¬ 30 < e.n:=fun h => by omega
  have b2:31 ≤ e.n → 30 < e.n:=fun h => by omega
  have g0:TG.grp e.n ≠ [] ∧ (TG.grp e.n).length ≤ 4:=by unfold TG.grp; split <;> simp
  obtain ⟨gr,hgr⟩:∃ gr,TG.grp e.n=gr:=⟨_,rfl⟩
  rw [hgr] at G' tgh g0
  obtain ⟨g0,g4⟩:=g0
  have g1:0 < gr.length:=List.length_pos_iff.2 g0
  have e0:gr.length ≤ 70368744177664:=by omega
  have d0:ct.length ≤ 70368744177664:=by omega
  have gc0:gr.length + ct.length ≤ 70368744177664:=by omega
  have e1:gr.length ≤ 70368744177663:=by omega
  have c1:ct.length ≤ 70368744177663:=by omega
  have gc1:gr.length + ct.length ≤ 70368744177663:=by omega
  have e2:gr.length ≤ 70368744177662:=by omega
  have c2:ct.length ≤ 70368744177662:=by omega
  have gc2:gr.length + ct.length ≤ 70368744177662:=by omega
  have e3:gr.length ≤ 70368744177661:=by omega
  have c3:ct.length ≤ 70368744177661:=by omega
  have gc3:gr.length + ct.length ≤ 70368744177661:=by omega
  have e4:gr.length ≤ 70368744177660:=by omega
  have c4:ct.length ≤ 70368744177660:=by omega
  have gc4:gr.length + ct.length ≤ 70368744177660:=by omega
  have e5:gr.length ≤ 70368744177659:=by omega
  have c5:ct.length ≤ 70368744177659:=by omega
  have gc5:gr.length + ct.length ≤ 70368744177659:=by omega
  have e6:gr.length ≤ 70368744177658:=by omega
  have c6:ct.length ≤ 70368744177658:=by omega
  have gc6:gr.length + ct.length ≤ 70368744177658:=by omega
  have f1:¬ (1 + gr.length ≤ 1):=by omega
  have f2:1 + gr.length ≤ 70368744177664:=by omega
  have f3:1 + (gr.length + 1) ≤ 70368744177664:=by omega
  have f4:1 + (gr.length + (1 + ct.length)) ≤ 70368744177664:=by omega
  have f5:2 + ct.length ≤ 70368744177664:=by omega
  have f6:e.b.length ≤ 70368744177664:=by omega
  have f7:ct.length ≤ 70368744177664:=by omega
  have pl:∀ (l:List Int) (x:Int),AV.pureL (bs l ++ [AV.int .u8 x])=true:=fun l x => by rw [show bs l ++ [AV.int .u8 x]=bs (l ++ [x]) from (bs_append l [x]).symm]; exact bs_pure _
  have h1_:1 + ct.length ≤ 70368744177664:=by omega
  have hg1_:gr.length + 1 + ct.length ≤ 70368744177664:=by omega
  have h2_:2 + ct.length ≤ 70368744177664:=by omega
  have hg2_:gr.length + 2 + ct.length ≤ 70368744177664:=by omega
  have h3_:3 + ct.length ≤ 70368744177664:=by omega
  have hg3_:gr.length + 3 + ct.length ≤ 70368744177664:=by omega
  have h4_:4 + ct.length ≤ 70368744177664:=by omega
  have hg4_:gr.length + 4 + ct.length ≤ 70368744177664:=by omega
  have h5_:5 + ct.length ≤ 70368744177664:=by omega
  have hg5_:gr.length + 5 + ct.length ≤ 70368744177664:=by omega
  have hh2_:gr.length + 1 + 1 + ct.length ≤ 70368744177664:=by omega
  have hh3_:gr.length + 1 + 1 + 1 + ct.length ≤ 70368744177664:=by omega
  have hh4_:gr.length + 1 + 1 + 1 + 1 + ct.length ≤ 70368744177664:=by omega
  have hh5_:gr.length + 1 + 1 + 1 + 1 + 1 + ct.length ≤ 70368744177664:=by omega
  have j2_:(ct.length + 1 + 1=2 + ct.length)=True:=eq_true (by omega)
  have j3_:(ct.length + 1 + 1 + 1=3 + ct.length)=True:=eq_true (by omega)
  have j4_:(ct.length + 1 + 1 + 1 + 1=4 + ct.length)=True:=eq_true (by omega)
  have k1_:(gr.length + (ct.length + 1) + 1=gr.length + 1 + 1 + ct.length)=True:=eq_true (by omega)
  have k2_:(gr.length + (ct.length + 1 + 1) + 1=gr.length + 1 + 1 + 1 + ct.length)=True:=eq_true (by omega)
  have k3_:(gr.length + (ct.length + 1 + 1 + 1) + 1=gr.length + 1 + 1 + 2 + ct.length)=True:=eq_true (by omega)
  have k4_:(gr.length + (ct.length + 1 + 1 + 1) + 1=gr.length + 1 + 1 + 1 + 1 + ct.length)=True:=eq_true (by omega)
  have k5_:gr.length + 1 + 1 + 2 + ct.length ≤ 70368744177664:=by omega
  have k6_:gr.length + 1 + 1 + 3 + ct.length ≤ 70368744177664:=by omega
  have k7_:(gr.length + 1 + 1 + 2 ≤ 70368744177664)=True:=eq_true (by omega)
  have y0:(0:Int) ≤ ct.length:=by omega
  have le1:ct.length < 128 → lenO (ct.length:Int)=[(ct.length:Int)]:=fun h => by unfold lenO; rw [if_pos (by omega)]
  have le2:¬ ct.length < 128 → ct.length < 256 → lenO (ct.length:Int)=[129,(ct.length:Int)]:=fun h h' => by unfold lenO; rw [if_neg (by omega),if_pos (by omega)]
  have le3:¬ ct.length < 256 → lenO (ct.length:Int)=[130,(ct.length:Int) / 256,(ct.length:Int) % 256]:=fun h => by unfold lenO; rw [if_neg (by omega),if_neg (by omega),if_pos (by omega)]
  have n1:ct.length < 128 → ((ct.length:Int) < 128)=True:=fun h => eq_true (by omega)
  have n2:¬ ct.length < 128 → ((ct.length:Int) < 128)=False:=fun h => eq_false (by omega)
  have n3:ct.length < 256 → (ct.length:Int) % 256=ct.length:=fun h => by omega
  have n4:(ct.length:Int).tmod 256=(ct.length:Int) % 256:=Int.tmod_eq_emod_of_nonneg (by omega)
  have n5:(ct.length:Int).tdiv 256=(ct.length:Int) / 256:=Int.tdiv_eq_ediv_of_nonneg (by omega)
  have n6:(ct.length:Int) % 256 % 256=(ct.length:Int) % 256:=by omega
  have n7:ct.length < 256 → (ct.length:Int) / 256=0:=fun h => by omega
  have n8:¬ ct.length < 256 → (0 < (ct.length:Int) / 256)=True:=fun h => eq_true (by omega)
  have n9:((ct.length:Int) / 256).tmod 256=(ct.length:Int) / 256:=by rw [Int.tmod_eq_emod_of_nonneg (by omega)]; omega
  have n10:((ct.length:Int) / 256).tdiv 256=0:=by rw [Int.tdiv_eq_ediv_of_nonneg (by omega)]; omega
  have n11:(ct.length:Int) / 256 % 256=(ct.length:Int) / 256:=by omega
  have n12:=w64' ((ct.length:Int) / 256) (by omega) (by omega)
  have n13:=w64' ((ct.length:Int) % 256) (by omega) (by omega)
  have n14:ct ≠ [] → (0 < ct.length)=True:=fun h => eq_true (List.length_pos_iff.2 h)
  have hk:e.k=true:=by cases q:e.k; exact absurd (v3 q) hs; rfl
  have hb:=v2 hk
  have cte:encs (El.cores e.s)=ct:=by rw [← hct,hb]; rfl
  obtain ⟨m,L⟩:=loop0 (K' + 4) e he.sl (fun x hx => ⟨none,fun h => hN x hx (K' + 4) (by omega) 0 h⟩) (by omega) (by omega) hs
  rw [cte] at L
  have hc:ct ≠ []:=fun q => by
    have:=E17.enc_ne
    cases q2:e.s with
    | nil => exact hs q2
    | cons x r =>
      rw [q2,El.cores,encs] at cte
      rw [q] at cte
      exact E17.enc_ne x (List.append_eq_nil_iff.1 cte).1
  simp [LpE,bE,lp,lps,c65,firstReg,S0,ec,hb,bs_nil,hk] at L
  have h31':31 ≤ e.n:=by omega
  rw [tgh h31,hk]
  by_cases h1:ct.length < 128
  · rw [le1 h1]
    simp [El.av_eq,↓s_seq,↓s_reg,↓s_cond,↓s_block,↓s_cons,s_nil,s_loop,firstReg,s_val,s_cax,s_ret,s_rgx,s_sqn,s_cdb,s_bke,s_ret',s_finr,s_fin1,s_fix,s_clean,o_tmp,o_int,o_nil,l_hit,l_miss,ol_nil,ol_cons,ol_some,x_move,x_assign,x_bin,bn_s,x_callF,cl_no,x_callB,x_conv,cvx,convA,frame0,binA,intOp,resL,resA,results1,sealLW,AV.pure,AV.pureL,keepT,x_box,bxx,x_buildSlice,bsx,x_load,ldx,x_fieldAddr,newK,genOf,setK,lookK,fillA,writeL,writeC,readC,conts,TyI.mk1,fieldAddrA,appendA,copyA,builtinA,AV.cells,gcH,reach,keysT,keepK,inKs,AV.keys,AV.keysL,Ty.isAgg,w_u8,sc_int,sc_bool,sc_sl,sc_mem,bs_pure,bs_kl,bs_length,bs_cells,bs_all,sl_row,sealRow,sealY,sl_int,nat_1,bs_cons,bs_nil,s_site,s_stxN,hb,hk,L,m0,b2,m4,h31',G',g0,e1,e2,h1,n1,n3 (by omega),El.keysL_app,bs_kl,bs_append,Rw.pureL_app,bs_pure,hg2_,k1_]
  by_cases h2:ct.length < 256
  · rw [le2 h1 h2]
    simp [El.av_eq,↓s_seq,↓s_reg,↓s_cond,↓s_block,↓s_cons,s_nil,s_loop,firstReg,s_val,s_cax,s_ret,s_rgx,s_sqn,s_cdb,s_bke,s_clean,o_tmp,o_int,o_nil,l_hit,l_miss,ol_nil,ol_cons,ol_some,x_move,x_assign,x_bin,bn_s,x_callF,cl_no,x_callB,x_conv,cvx,convA,frame0,binA,intOp,sealLW,AV.pure,AV.pureL,keepT,x_box,bxx,x_buildSlice,bsx,x_load,ldx,x_fieldAddr,newK,genOf,setK,lookK,fillA,writeL,writeC,readC,conts,TyI.mk1,fieldAddrA,appendA,copyA,builtinA,AV.cells,gcH,reach,keysT,keepK,inKs,AV.keys,AV.keysL,Ty.isAgg,w_u8,sc_int,sc_bool,sc_sl,sc_mem,bs_kl,bs_length,bs_cells,sl_int,nat_1,bs_cons,bs_nil,s_site,s_stxN,hb,hk,L,m0,b2,m4,h31',G',g0,e1,h1,n2,bs_kl,bs_append]
    simp [↓s_seq,↓s_reg,↓s_cond,↓s_block,↓s_cons,s_nil,s_round,s_lpn,s_lpe,s_val,s_rgx,s_sqn,s_sqe,s_cdb,s_bkn,s_bke,s_exit,s_ret',s_skip',s_finr,s_fin1,s_fix,s_clean,o_tmp,o_int,l_hit,l_miss,ol_nil,ol_cons,ol_some,x_move,x_assign,x_bin,bn_s,x_callB,x_conv,cvx,convA,binA,intOp,resL,resA,results1,AV.pure,AV.pureL,keepT,x_buildSlice,bsx,newK,genOf,setK,lookK,fillA,writeL,writeC,conts,appendA,copyA,builtinA,AV.cells,gcH,reach,keysT,keepK,inKs,AV.keys,AV.keysL,Ty.isAgg,w_u8,w_i64,w_tdiv,w_tmod,sc_int,sc_mem,bs_pure,bs_kl,bs_length,bs_all,sl_row,sealRow,sealY,e2,e3,n3 h2,n7 h2,n14,El.keysL_app,bs_kl,Rw.pureL_app,bs_pure,hc,hg3_,k2_,w_i64]
  · rw [le3 h2]
    simp [El.av_eq,↓s_seq,↓s_reg,↓s_cond,↓s_block,↓s_cons,s_nil,s_loop,firstReg,s_val,s_cax,s_ret,s_rgx,s_sqn,s_cdb,s_bke,s_clean,o_tmp,o_int,o_nil,l_hit,l_miss,ol_nil,ol_cons,ol_some,x_move,x_assign,x_bin,bn_s,x_callF,cl_no,x_callB,x_conv,cvx,convA,frame0,binA,intOp,sealLW,AV.pure,AV.pureL,keepT,x_box,bxx,x_buildSlice,bsx,x_load,ldx,x_fieldAddr,newK,genOf,setK,lookK,fillA,writeL,writeC,readC,conts,TyI.mk1,fieldAddrA,appendA,copyA,builtinA,AV.cells,gcH,reach,keysT,keepK,inKs,AV.keys,AV.keysL,Ty.isAgg,w_u8,sc_int,sc_bool,sc_sl,sc_mem,bs_kl,bs_length,bs_cells,sl_int,nat_1,bs_cons,bs_nil,s_site,s_stxN,hb,hk,L,m0,b2,m4,h31',G',g0,e1,h1,n2,bs_kl,bs_append]
    simp [↓s_seq,↓s_reg,↓s_cond,↓s_block,↓s_cons,s_nil,s_round,s_lpn,s_lpe,s_val,s_rgx,s_sqn,s_sqe,s_cdb,s_bkn,s_bke,s_exit,s_ret',s_skip',s_finr,s_fin1,s_fix,s_clean,o_tmp,o_int,l_hit,l_miss,ol_nil,ol_cons,ol_some,x_move,x_assign,x_bin,bn_s,x_callB,x_conv,cvx,convA,binA,intOp,resL,resA,results1,AV.pure,AV.pureL,keepT,x_buildSlice,bsx,newK,genOf,setK,lookK,fillA,writeL,writeC,conts,appendA,copyA,builtinA,AV.cells,gcH,reach,keysT,keepK,inKs,AV.keys,AV.keysL,Ty.isAgg,w_u8,w_i64,w_tdiv,w_tmod,sc_int,sc_mem,bs_pure,bs_kl,bs_length,bs_all,sl_row,sealRow,sealY,e2,e4,h2,n6,n8,n9,n10,n11,n12,n14,El.keysL_app,bs_kl,Rw.pureL_app,bs_pure,hc,hg4_,k3_,w_i64]
end F19
end
section
open Ab Go TabE Sp E34 F1 F4 F5 F17 F18
namespace F19
theorem pClo (e:El) (he:e.ok) (hv:vld e.core) (hl:(enc e.core).length ≤ 60000) (N:Nat) (hN:∀ x ∈ e.s,Con E N 65 [x.av] (.sl false (bs (enc x.core)) none)) (hs:e.s=[]) (hb:¬ e.b=[]) (h31:e.n < 31):∃ N,Con E N 65 [e.av] (.sl false (bs (enc e.core)) none):=by
  obtain ⟨v1,v2,v3,v4⟩:=(vld_eq e).1 hv
  obtain ⟨t3,n3⟩:e.c ≤ 3 ∧ e.n ≤ 268435455:=by
    have:=v1; unfold tagE at this
    split at this
    · cases this
    · omega
  have tl:=tagO_len e.c e.k e.n
  have el:=enc_eq e
  obtain ⟨ct,hct⟩:∃ ct,e.b ++ encs (El.cores e.s)=ct:=⟨_,rfl⟩
  rw [hct] at el
  have lel:(enc e.core).length=(TG.tagO e.c e.k e.n).length + ((lenO (ct.length:Int)).length + ct.length):=by rw [el,List.length_append,List.length_append]
  have lct:ct.length=e.b.length + (encs (El.cores e.s)).length:=by rw [← hct,List.length_append]
  obtain ⟨K,hK⟩:∃ K,N + e.s.length + 60=K:=⟨_,rfl⟩
  obtain ⟨gc,G⟩:=dig e.n he.nb.1 (by omega)
  have G':=G K (by omega) 0
  refine ⟨K + 1,con_ofO E_fn65 (by simp [AV.pureL,El.av_pure]) (Nat.le_of_ble_eq_true rfl) rfl (g:=[]) ?_⟩
  rw [body_65,c65,el]
  have cc0:=he.cb.1
  have n0:=he.nb.1
  obtain ⟨K',rfl⟩:∃ K',K=K' + 4:=⟨K - 4,by omega⟩
  have tgl:e.n < 31 → TG.tagO e.c e.k e.n=[64 * e.c + (if e.k then 32 else 0) + e.n]:=fun h => by unfold TG.tagO; rw [if_pos h]
  have tgh:¬ e.n < 31 → TG.tagO e.c e.k e.n=(64 * e.c + (if e.k then 32 else 0) + 31) :: TG.grp e.n:=fun h => by unfold TG.tagO; rw [if_neg h]
  have gl:=tagO_len e.c e.k e.n
  have m0:31 ≤ e.n → (if 31 < e.n then (31:Int) else e.n)=31:=fun h => by split <;> omega
  have m1:e.n < 31 → (e.c * 64 + e.n) % 256=64 * e.c + e.n:=fun h => by omega
  have m2:e.n < 31 → (e.c * 64 + 32 + e.n) % 256=64 * e.c + 32 + e.n:=fun h => by omega
  have m3:(e.c * 64 + 31) % 256=64 * e.c + 31:=by omega
  have m4:(e.c * 64 + 32 + 31) % 256=64 * e.c + 32 + 31:=by omega
  have b0:¬ 31 ≤ e.n → ¬ 31 < e.n:=fun h => by omega
  have b1:¬ 31 ≤ e.n → ¬ 30 < e.n:=fun h => by omega
  have b2:31 ≤ e.n → 30 < e.n:=fun h => by omega
  have g0:TG.grp e.n ≠ [] ∧ (TG.grp e.n).length ≤ 4:=by unfold TG.grp; split <;> simp
  obtain ⟨gr,hgr⟩:∃ gr,TG.grp e.n=gr:=⟨_,rfl⟩
  rw [hgr] at G' tgh g0
  obtain ⟨g0,g4⟩:=g0
  have g1:0 < gr.length:=List.length_pos_iff.2 g0
  have e0:gr.length ≤ 70368744177664:=by omega
  have d0:ct.length ≤ 70368744177664:=by omega
  have gc0:gr.length + ct.length ≤ 70368744177664:=by omega
  have e1:gr.length ≤ 70368744177663:=by omega
  have c1:ct.length ≤ 70368744177663:=by omega
  have gc1:gr.length + ct.length ≤ 70368744177663:=by omega
  have e2:gr.length ≤ 70368744177662:=by omega
  have c2:ct.length ≤ 70368744177662:=by omega
  have gc2:gr.length + ct.length ≤ 70368744177662:=by omega
  have e3:gr.length ≤ 70368744177661:=by omega
  have c3:ct.length ≤ 70368744177661:=by omega
  have gc3:gr.length + ct.length ≤ 70368744177661:=by omega
  have e4:gr.length ≤ 70368744177660:=by omega
  have c4:ct.length ≤ 70368744177660:=by omega
  have gc4:gr.length + ct.length ≤ 70368744177660:=by omega
  have e5:gr.length ≤ 70368744177659:=by omega
  have c5:ct.length ≤ 70368744177659:=by omega
  have gc5:gr.length + ct.length ≤ 70368744177659:=by omega
  have e6:gr.length ≤ 70368744177658:=by omega
  have c6:ct.length ≤ 70368744177658:=by omega
  have gc6:gr.length + ct.length ≤ 70368744177658:=by omega
  have f1:¬ (1 + gr.length ≤ 1):=by omega
  have f2:1 + gr.length ≤ 70368744177664:=by omega
  have f3:1 + (gr.length + 1) ≤ 70368744177664:=by omega
  have f4:1 + (gr.length + (1 + ct.length)) ≤ 70368744177664:=by omega
  have f5:2 + ct.length ≤ 70368744177664:=by omega
  have f6:e.b.length ≤ 70368744177664:=by omega
  have f7:ct.length ≤ 70368744177664:=by omega
  have pl:∀ (l:List Int) (x:Int),AV.pureL (bs l ++ [AV.int .u8 x])=true:=fun l x => by rw [show bs l ++ [AV.int .u8 x]=bs (l ++ [x]) from (bs_append l [x]).symm]; exact bs_pure _
  have h1_:1 + ct.length ≤ 70368744177664:=by omega
  have hg1_:gr.length + 1 + ct.length ≤ 70368744177664:=by omega
  have h2_:2 + ct.length ≤ 70368744177664:=by omega
  have hg2_:gr.length + 2 + ct.length ≤ 70368744177664:=by omega
  have h3_:3 + ct.length ≤ 70368744177664:=by omega
  have hg3_:gr.length + 3 + ct.length ≤ 70368744177664:=by omega
  have h4_:4 + ct.length ≤ 70368744177664:=by omega
  have hg4_:gr.length + 4 + ct.length ≤ 70368744177664:=by omega
  have h5_:5 + ct.length ≤ 70368744177664:=by omega
  have hg5_:gr.length + 5 + ct.length ≤ 70368744177664:=by omega
  have hh2_:gr.length + 1 + 1 + ct.length ≤ 70368744177664:=by omega
  have hh3_:gr.length + 1 + 1 + 1 + ct.length ≤ 70368744177664:=by omega
  have hh4_:gr.length + 1 + 1 + 1 + 1 + ct.length ≤ 70368744177664:=by omega
  have hh5_:gr.length + 1 + 1 + 1 + 1 + 1 + ct.length ≤ 70368744177664:=by omega
  have j2_:(ct.length + 1 + 1=2 + ct.length)=True:=eq_true (by omega)
  have j3_:(ct.length + 1 + 1 + 1=3 + ct.length)=True:=eq_true (by omega)
  have j4_:(ct.length + 1 + 1 + 1 + 1=4 + ct.length)=True:=eq_true (by omega)
  have k1_:(gr.length + (ct.length + 1) + 1=gr.length + 1 + 1 + ct.length)=True:=eq_true (by omega)
  have k2_:(gr.length + (ct.length + 1 + 1) + 1=gr.length + 1 + 1 + 1 + ct.length)=True:=eq_true (by omega)
  have k3_:(gr.length + (ct.length + 1 + 1 + 1) + 1=gr.length + 1 + 1 + 2 + ct.length)=True:=eq_true (by omega)
  have k4_:(gr.length + (ct.length + 1 + 1 + 1) + 1=gr.length + 1 + 1 + 1 + 1 + ct.length)=True:=eq_true (by omega)
  have k5_:gr.length + 1 + 1 + 2 + ct.length ≤ 70368744177664:=by omega
  have k6_:gr.length + 1 + 1 + 3 + ct.length ≤ 70368744177664:=by omega
  have k7_:(gr.length + 1 + 1 + 2 ≤ 70368744177664)=True:=eq_true (by omega)
  have y0:(0:Int) ≤ ct.length:=by omega
  have le1:ct.length < 128 → lenO (ct.length:Int)=[(ct.length:Int)]:=fun h => by unfold lenO; rw [if_pos (by omega)]
  have le2:¬ ct.length < 128 → ct.length < 256 → lenO (ct.length:Int)=[129,(ct.length:Int)]:=fun h h' => by unfold lenO; rw [if_neg (by omega),if_pos (by omega)]
  have le3:¬ ct.length < 256 → lenO (ct.length:Int)=[130,(ct.length:Int) / 256,(ct.length:Int) % 256]:=fun h => by unfold lenO; rw [if_neg (by omega),if_neg (by omega),if_pos (by omega)]
  have n1:ct.length < 128 → ((ct.length:Int) < 128)=True:=fun h => eq_true (by omega)
  have n2:¬ ct.length < 128 → ((ct.length:Int) < 128)=False:=fun h => eq_false (by omega)
  have n3:ct.length < 256 → (ct.length:Int) % 256=ct.length:=fun h => by omega
  have n4:(ct.length:Int).tmod 256=(ct.length:Int) % 256:=Int.tmod_eq_emod_of_nonneg (by omega)
  have n5:(ct.length:Int).tdiv 256=(ct.length:Int) / 256:=Int.tdiv_eq_ediv_of_nonneg (by omega)
  have n6:(ct.length:Int) % 256 % 256=(ct.length:Int) % 256:=by omega
  have n7:ct.length < 256 → (ct.length:Int) / 256=0:=fun h => by omega
  have n8:¬ ct.length < 256 → (0 < (ct.length:Int) / 256)=True:=fun h => eq_true (by omega)
  have n9:((ct.length:Int) / 256).tmod 256=(ct.length:Int) / 256:=by rw [Int.tmod_eq_emod_of_nonneg (by omega)]; omega
  have n10:((ct.length:Int) / 256).tdiv 256=0:=by rw [Int.tdiv_eq_ediv_of_nonneg (by omega)]; omega
  have n11:(ct.length:Int) / 256 % 256=(ct.length:Int) / 256:=by omega
  have n12:=w64' ((ct.length:Int) / 256) (by omega) (by omega)
  have n13:=w64' ((ct.length:Int) % 256) (by omega) (by omega)
  have n14:ct ≠ [] → (0 < ct.length)=True:=fun h => eq_true (List.length_pos_iff.2 h)
  have hk:e.k=false:=by cases q:e.k; rfl; exact absurd (v2 q) hb
  have cte:e.b=ct:=by rw [← hct,hs]; simp [El.cores,encs]
  have L:=byt (K' + 4) (by omega) e hs
  rw [cte] at L
  have hc:ct ≠ []:=fun q => hb (by rw [cte,q])
  simp [LpE,bE,lp,lps,c65,firstReg,SR,ec,cte,hk] at L
  have h31':¬ 31 ≤ e.n:=by omega
  rw [tgl h31,hk]
  by_cases h1:ct.length < 128
  · rw [le1 h1]
    simp [El.av_eq,↓s_seq,↓s_reg,↓s_cond,↓s_block,↓s_cons,s_nil,s_loop,firstReg,s_val,s_rgx,s_sqn,s_cdb,s_bke,s_ret',s_skip',s_finr,s_fin1,s_fix,s_clean,o_tmp,o_int,o_nil,l_hit,l_miss,ol_nil,ol_cons,ol_some,x_move,x_assign,x_bin,bn_s,x_callB,x_conv,cvx,convA,frame0,binA,intOp,resL,resA,results1,AV.pure,AV.pureL,keepT,x_box,bxx,x_buildSlice,bsx,x_load,ldx,x_fieldAddr,newK,genOf,setK,lookK,fillA,writeL,writeC,readC,conts,TyI.mk1,fieldAddrA,appendA,copyA,builtinA,AV.cells,gcH,reach,keysT,keepK,inKs,AV.keys,AV.keysL,Ty.isAgg,w_u8,sc_int,sc_bool,sc_sl,sc_mem,bs_pure,bs_kl,bs_length,bs_cells,bs_all,sl_row,sealRow,sealY,bs_cons,cte,hk,L,b0,b1,m1,h31,h31',h1,n1,n3 (by omega),bs_kl,bs_pure,hc,d0,h2_,j2_]
  by_cases h2:ct.length < 256
  · rw [le2 h1 h2]
    simp [El.av_eq,↓s_seq,↓s_reg,↓s_cond,↓s_block,↓s_cons,s_nil,s_loop,firstReg,s_val,s_rgx,s_sqn,s_cdb,s_bke,s_skip',s_clean,o_tmp,o_int,o_nil,l_hit,l_miss,ol_nil,ol_cons,ol_some,x_move,x_assign,x_bin,bn_s,x_callB,x_conv,cvx,convA,frame0,binA,intOp,keepT,x_box,bxx,x_buildSlice,bsx,x_load,ldx,x_fieldAddr,newK,genOf,setK,lookK,fillA,writeL,writeC,readC,conts,TyI.mk1,fieldAddrA,appendA,copyA,builtinA,AV.cells,gcH,reach,keysT,keepK,inKs,AV.keys,AV.keysL,Ty.isAgg,w_u8,sc_int,sc_bool,sc_sl,sc_mem,bs_kl,bs_length,bs_cells,bs_cons,cte,hk,L,b0,b1,m1,h31,h31',h1,n2,bs_kl,hc,d0]
    simp [↓s_seq,↓s_reg,↓s_cond,↓s_block,↓s_cons,s_nil,s_round,s_lpn,s_lpe,s_val,s_rgx,s_sqn,s_sqe,s_cdb,s_bkn,s_bke,s_exit,s_ret',s_skip',s_finr,s_fin1,s_fix,s_clean,o_tmp,o_int,l_hit,l_miss,ol_nil,ol_cons,ol_some,x_move,x_assign,x_bin,bn_s,x_callB,x_conv,cvx,convA,binA,intOp,resL,resA,results1,AV.pure,AV.pureL,keepT,x_buildSlice,bsx,newK,genOf,setK,lookK,fillA,writeL,writeC,conts,appendA,copyA,builtinA,AV.cells,gcH,reach,keysT,keepK,inKs,AV.keys,AV.keysL,Ty.isAgg,w_u8,w_i64,w_tdiv,w_tmod,sc_int,sc_mem,bs_pure,bs_kl,bs_length,bs_all,sl_row,sealRow,sealY,n3 h2,n7 h2,n14,bs_kl,bs_pure,hc,h3_,j3_,w_i64]
  · rw [le3 h2]
    simp [El.av_eq,↓s_seq,↓s_reg,↓s_cond,↓s_block,↓s_cons,s_nil,s_loop,firstReg,s_val,s_rgx,s_sqn,s_cdb,s_bke,s_skip',s_clean,o_tmp,o_int,o_nil,l_hit,l_miss,ol_nil,ol_cons,ol_some,x_move,x_assign,x_bin,bn_s,x_callB,x_conv,cvx,convA,frame0,binA,intOp,keepT,x_box,bxx,x_buildSlice,bsx,x_load,ldx,x_fieldAddr,newK,genOf,setK,lookK,fillA,writeL,writeC,readC,conts,TyI.mk1,fieldAddrA,appendA,copyA,builtinA,AV.cells,gcH,reach,keysT,keepK,inKs,AV.keys,AV.keysL,Ty.isAgg,w_u8,sc_int,sc_bool,sc_sl,sc_mem,bs_kl,bs_length,bs_cells,bs_cons,cte,hk,L,b0,b1,m1,h31,h31',h1,n2,bs_kl,hc,d0]
    simp [↓s_seq,↓s_reg,↓s_cond,↓s_block,↓s_cons,s_nil,s_round,s_lpn,s_lpe,s_val,s_rgx,s_sqn,s_sqe,s_cdb,s_bkn,s_bke,s_exit,s_ret',s_skip',s_finr,s_fin1,s_fix,s_clean,o_tmp,o_int,l_hit,l_miss,ol_nil,ol_cons,ol_some,x_move,x_assign,x_bin,bn_s,x_callB,x_conv,cvx,convA,binA,intOp,resL,resA,results1,AV.pure,AV.pureL,keepT,x_buildSlice,bsx,newK,genOf,setK,lookK,fillA,writeL,writeC,conts,appendA,copyA,builtinA,AV.cells,gcH,reach,keysT,keepK,inKs,AV.keys,AV.keysL,Ty.isAgg,w_u8,w_i64,w_tdiv,w_tmod,sc_int,sc_mem,bs_pure,bs_kl,bs_length,bs_all,sl_row,sealRow,sealY,h2,n6,n8,n9,n10,n11,n12,n14,bs_kl,bs_pure,hc,h4_,j4_,w_i64]
end F19
end
section
open Ab Go TabE Sp E34 F1 F4 F5 F17 F18
namespace F19
theorem pChi (e:El) (he:e.ok) (hv:vld e.core) (hl:(enc e.core).length ≤ 60000) (N:Nat) (hN:∀ x ∈ e.s,Con E N 65 [x.av] (.sl false (bs (enc x.core)) none)) (hs:e.s=[]) (hb:¬ e.b=[]) (h31:¬ e.n < 31):∃ N,Con E N 65 [e.av] (.sl false (bs (enc e.core)) none):=by
  obtain ⟨v1,v2,v3,v4⟩:=(vld_eq e).1 hv
  obtain ⟨t3,n3⟩:e.c ≤ 3 ∧ e.n ≤ 268435455:=by
    have:=v1; unfold tagE at this
    split at this
    · cases this
    · omega
  have tl:=tagO_len e.c e.k e.n
  have el:=enc_eq e
  obtain ⟨ct,hct⟩:∃ ct,e.b ++ encs (El.cores e.s)=ct:=⟨_,rfl⟩
  rw [hct] at el
  have lel:(enc e.core).length=(TG.tagO e.c e.k e.n).length + ((lenO (ct.length:Int)).length + ct.length):=by rw [el,List.length_append,List.length_append]
  have lct:ct.length=e.b.length + (encs (El.cores e.s)).length:=by rw [← hct,List.length_append]
  obtain ⟨K,hK⟩:∃ K,N + e.s.length + 60=K:=⟨_,rfl⟩
  obtain ⟨gc,G⟩:=dig e.n he.nb.1 (by omega)
  have G':=G K (by omega) 0
  refine ⟨K + 1,con_ofO E_fn65 (by simp [AV.pureL,El.av_pure]) (Nat.le_of_ble_eq_true rfl) rfl (g:=[]) ?_⟩
  rw [body_65,c65,el]
  have cc0:=he.cb.1
  have n0:=he.nb.1
  obtain ⟨K',rfl⟩:∃ K',K=K' + 4:=⟨K - 4,by omega⟩
  have tgl:e.n < 31 → TG.tagO e.c e.k e.n=[64 * e.c + (if e.k then 32 else 0) + e.n]:=fun h => by unfold TG.tagO; rw [if_pos h]
  have tgh:¬ e.n < 31 → TG.tagO e.c e.k e.n=(64 * e.c + (if e.k then 32 else 0) + 31) :: TG.grp e.n:=fun h => by unfold TG.tagO; rw [if_neg h]
  have gl:=tagO_len e.c e.k e.n
  have m0:31 ≤ e.n → (if 31 < e.n then (31:Int) else e.n)=31:=fun h => by split <;> omega
  have m1:e.n < 31 → (e.c * 64 + e.n) % 256=64 * e.c + e.n:=fun h => by omega
  have m2:e.n < 31 → (e.c * 64 + 32 + e.n) % 256=64 * e.c + 32 + e.n:=fun h => by omega
  have m3:(e.c * 64 + 31) % 256=64 * e.c + 31:=by omega
  have m4:(e.c * 64 + 32 + 31) % 256=64 * e.c + 32 + 31:=by omega
  have b0:¬ 31 ≤ e.n → ¬ 31 < e.n:=fun h => by omega
  have b1:¬ 31 ≤ e.n → ¬ 30 < e.n:=fun h => by omega
  have b2:31 ≤ e.n → 30 < e.n:=fun h => by omega
  have g0:TG.grp e.n ≠ [] ∧ (TG.grp e.n).length ≤ 4:=by unfold TG.grp; split <;> simp
  obtain ⟨gr,hgr⟩:∃ gr,TG.grp e.n=gr:=⟨_,rfl⟩
  rw [hgr] at G' tgh g0
  obtain ⟨g0,g4⟩:=g0
  have g1:0 < gr.length:=List.length_pos_iff.2 g0
  have e0:gr.length ≤ 70368744177664:=by omega
  have d0:ct.length ≤ 70368744177664:=by omega
  have gc0:gr.length + ct.length ≤ 70368744177664:=by omega
  have e1:gr.length ≤ 70368744177663:=by omega
  have c1:ct.length ≤ 70368744177663:=by omega
  have gc1:gr.length + ct.length ≤ 70368744177663:=by omega
  have e2:gr.length ≤ 70368744177662:=by omega
  have c2:ct.length ≤ 70368744177662:=by omega
  have gc2:gr.length + ct.length ≤ 70368744177662:=by omega
  have e3:gr.length ≤ 70368744177661:=by omega
  have c3:ct.length ≤ 70368744177661:=by omega
  have gc3:gr.length + ct.length ≤ 70368744177661:=by omega
  have e4:gr.length ≤ 70368744177660:=by omega
  have c4:ct.length ≤ 70368744177660:=by omega
  have gc4:gr.length + ct.length ≤ 70368744177660:=by omega
  have e5:gr.length ≤ 70368744177659:=by omega
  have c5:ct.length ≤ 70368744177659:=by omega
  have gc5:gr.length + ct.length ≤ 70368744177659:=by omega
  have e6:gr.length ≤ 70368744177658:=by omega
  have c6:ct.length ≤ 70368744177658:=by omega
  have gc6:gr.length + ct.length ≤ 70368744177658:=by omega
  have f1:¬ (1 + gr.length ≤ 1):=by omega
  have f2:1 + gr.length ≤ 70368744177664:=by omega
  have f3:1 + (gr.length + 1) ≤ 70368744177664:=by omega
  have f4:1 + (gr.length + (1 + ct.length)) ≤ 70368744177664:=by omega
  have f5:2 + ct.length ≤ 70368744177664:=by omega
  have f6:e.b.length ≤ 70368744177664:=by omega
  have f7:ct.length ≤ 70368744177664:=by omega
  have pl:∀ (l:List Int) (x:Int),AV.pureL (bs l ++ [AV.int .u8 x])=true:=fun l x => by rw [show bs l ++ [AV.int .u8 x]=bs (l ++ [x]) from (bs_append l [x]).symm]; exact bs_pure _
  have h1_:1 + ct.length ≤ 70368744177664:=by omega
  have hg1_:gr.length + 1 + ct.length ≤ 70368744177664:=by omega
  have h2_:2 + ct.length ≤ 70368744177664:=by omega
  have hg2_:gr.length + 2 + ct.length ≤ 70368744177664:=by omega
  have h3_:3 + ct.length ≤ 70368744177664:=by omega
  have hg3_:gr.length + 3 + ct.length ≤ 70368744177664:=by omega
  have h4_:4 + ct.length ≤ 70368744177664:=by omega
  have hg4_:gr.length + 4 + ct.length ≤ 70368744177664:=by omega
  have h5_:5 + ct.length ≤ 70368744177664:=by omega
  have hg5_:gr.length + 5 + ct.length ≤ 70368744177664:=by omega
  have hh2_:gr.length + 1 + 1 + ct.length ≤ 70368744177664:=by omega
  have hh3_:gr.length + 1 + 1 + 1 + ct.length ≤ 70368744177664:=by omega
  have hh4_:gr.length + 1 + 1 + 1 + 1 + ct.length ≤ 70368744177664:=by omega
  have hh5_:gr.length + 1 + 1 + 1 + 1 + 1 + ct.length ≤ 70368744177664:=by omega
  have j2_:(ct.length + 1 + 1=2 + ct.length)=True:=eq_true (by omega)
  have j3_:(ct.length + 1 + 1 + 1=3 + ct.length)=True:=eq_true (by omega)
  have j4_:(ct.length + 1 + 1 + 1 + 1=4 + ct.length)=True:=eq_true (by omega)
  have k1_:(gr.length + (ct.length + 1) + 1=gr.length + 1 + 1 + ct.length)=True:=eq_true (by omega)
  have k2_:(gr.length + (ct.length + 1 + 1) + 1=gr.length + 1 + 1 + 1 + ct.length)=True:=eq_true (by omega)
  have k3_:(gr.length + (ct.length + 1 + 1 + 1) + 1=gr.length + 1 + 1 + 2 + ct.length)=True:=eq_true (by omega)
  have k4_:(gr.length + (ct.length + 1 + 1 + 1) + 1=gr.length + 1 + 1 + 1 + 1 + ct.length)=True:=eq_true (by omega)
  have k5_:gr.length + 1 + 1 + 2 + ct.length ≤ 70368744177664:=by omega
  have k6_:gr.length + 1 + 1 + 3 + ct.length ≤ 70368744177664:=by omega
  have k7_:(gr.length + 1 + 1 + 2 ≤ 70368744177664)=True:=eq_true (by omega)
  have y0:(0:Int) ≤ ct.length:=by omega
  have le1:ct.length < 128 → lenO (ct.length:Int)=[(ct.length:Int)]:=fun h => by unfold lenO; rw [if_pos (by omega)]
  have le2:¬ ct.length < 128 → ct.length < 256 → lenO (ct.length:Int)=[129,(ct.length:Int)]:=fun h h' => by unfold lenO; rw [if_neg (by omega),if_pos (by omega)]
  have le3:¬ ct.length < 256 → lenO (ct.length:Int)=[130,(ct.length:Int) / 256,(ct.length:Int) % 256]:=fun h => by unfold lenO; rw [if_neg (by omega),if_neg (by omega),if_pos (by omega)]
  have n1:ct.length < 128 → ((ct.length:Int) < 128)=True:=fun h => eq_true (by omega)
  have n2:¬ ct.length < 128 → ((ct.length:Int) < 128)=False:=fun h => eq_false (by omega)
  have n3:ct.length < 256 → (ct.length:Int) % 256=ct.length:=fun h => by omega
  have n4:(ct.length:Int).tmod 256=(ct.length:Int) % 256:=Int.tmod_eq_emod_of_nonneg (by omega)
  have n5:(ct.length:Int).tdiv 256=(ct.length:Int) / 256:=Int.tdiv_eq_ediv_of_nonneg (by omega)
  have n6:(ct.length:Int) % 256 % 256=(ct.length:Int) % 256:=by omega
  have n7:ct.length < 256 → (ct.length:Int) / 256=0:=fun h => by omega
  have n8:¬ ct.length < 256 → (0 < (ct.length:Int) / 256)=True:=fun h => eq_true (by omega)
  have n9:((ct.length:Int) / 256).tmod 256=(ct.length:Int) / 256:=by rw [Int.tmod_eq_emod_of_nonneg (by omega)]; omega
  have n10:((ct.length:Int) / 256).tdiv 256=0:=by rw [Int.tdiv_eq_ediv_of_nonneg (by omega)]; omega
  have n11:(ct.length:Int) / 256 % 256=(ct.length:Int) / 256:=by omega
  have n12:=w64' ((ct.length:Int) / 256) (by omega) (by omega)
  have n13:=w64' ((ct.length:Int) % 256) (by omega) (by omega)
  have n14:ct ≠ [] → (0 < ct.length)=True:=fun h => eq_true (List.length_pos_iff.2 h)
  have hk:e.k=false:=by cases q:e.k; rfl; exact absurd (v2 q) hb
  have cte:e.b=ct:=by rw [← hct,hs]; simp [El.cores,encs]
  have L:=byt (K' + 4) (by omega) e hs
  rw [cte] at L
  have hc:ct ≠ []:=fun q => hb (by rw [cte,q])
  simp [LpE,bE,lp,lps,c65,firstReg,SR,ec,cte,hk] at L
  have h31':31 ≤ e.n:=by omega
  rw [tgh h31,hk]
  by_cases h1:ct.length < 128
  · rw [le1 h1]
    simp [El.av_eq,↓s_seq,↓s_reg,↓s_cond,↓s_block,↓s_cons,s_nil,s_loop,firstReg,s_val,s_cax,s_ret,s_rgx,s_sqn,s_cdb,s_bke,s_ret',s_skip',s_finr,s_fin1,s_fix,s_clean,o_tmp,o_int,o_nil,l_hit,l_miss,ol_nil,ol_cons,ol_some,x_move,x_assign,x_bin,bn_s,x_callF,cl_no,x_callB,x_conv,cvx,convA,frame0,binA,intOp,resL,resA,results1,sealLW,AV.pure,AV.pureL,keepT,x_box,bxx,x_buildSlice,bsx,x_load,ldx,x_fieldAddr,newK,genOf,setK,lookK,fillA,writeL,writeC,readC,conts,TyI.mk1,fieldAddrA,appendA,copyA,builtinA,AV.cells,gcH,reach,keysT,keepK,inKs,AV.keys,AV.keysL,Ty.isAgg,w_u8,sc_int,sc_bool,sc_sl,sc_mem,bs_pure,bs_kl,bs_length,bs_cells,bs_all,sl_row,sealRow,sealY,sl_int,nat_1,bs_cons,s_site,s_stxN,cte,hk,L,m0,b2,m3,h31',G',g0,e1,e2,h1,n1,n3 (by omega),El.keysL_app,bs_kl,bs_append,Rw.pureL_app,bs_pure,hc,d0,hg2_,k1_]
  by_cases h2:ct.length < 256
  · rw [le2 h1 h2]
    simp [El.av_eq,↓s_seq,↓s_reg,↓s_cond,↓s_block,↓s_cons,s_nil,s_loop,firstReg,s_val,s_cax,s_ret,s_rgx,s_sqn,s_cdb,s_bke,s_skip',s_clean,o_tmp,o_int,o_nil,l_hit,l_miss,ol_nil,ol_cons,ol_some,x_move,x_assign,x_bin,bn_s,x_callF,cl_no,x_callB,x_conv,cvx,convA,frame0,binA,intOp,sealLW,AV.pure,AV.pureL,keepT,x_box,bxx,x_buildSlice,bsx,x_load,ldx,x_fieldAddr,newK,genOf,setK,lookK,fillA,writeL,writeC,readC,conts,TyI.mk1,fieldAddrA,appendA,copyA,builtinA,AV.cells,gcH,reach,keysT,keepK,inKs,AV.keys,AV.keysL,Ty.isAgg,w_u8,sc_int,sc_bool,sc_sl,sc_mem,bs_kl,bs_length,bs_cells,sl_int,nat_1,bs_cons,s_site,s_stxN,cte,hk,L,m0,b2,m3,h31',G',g0,e1,h1,n2,bs_kl,bs_append,hc,d0]
    simp [↓s_seq,↓s_reg,↓s_cond,↓s_block,↓s_cons,s_nil,s_round,s_lpn,s_lpe,s_val,s_rgx,s_sqn,s_sqe,s_cdb,s_bkn,s_bke,s_exit,s_ret',s_skip',s_finr,s_fin1,s_fix,s_clean,o_tmp,o_int,l_hit,l_miss,ol_nil,ol_cons,ol_some,x_move,x_assign,x_bin,bn_s,x_callB,x_conv,cvx,convA,binA,intOp,resL,resA,results1,AV.pure,AV.pureL,keepT,x_buildSlice,bsx,newK,genOf,setK,lookK,fillA,writeL,writeC,conts,appendA,copyA,builtinA,AV.cells,gcH,reach,keysT,keepK,inKs,AV.keys,AV.keysL,Ty.isAgg,w_u8,w_i64,w_tdiv,w_tmod,sc_int,sc_mem,bs_pure,bs_kl,bs_length,bs_all,sl_row,sealRow,sealY,e2,e3,n3 h2,n7 h2,n14,El.keysL_app,bs_kl,Rw.pureL_app,bs_pure,hc,hg3_,k2_,w_i64]
  · rw [le3 h2]
    simp [El.av_eq,↓s_seq,↓s_reg,↓s_cond,↓s_block,↓s_cons,s_nil,s_loop,firstReg,s_val,s_cax,s_ret,s_rgx,s_sqn,s_cdb,s_bke,s_skip',s_clean,o_tmp,o_int,o_nil,l_hit,l_miss,ol_nil,ol_cons,ol_some,x_move,x_assign,x_bin,bn_s,x_callF,cl_no,x_callB,x_conv,cvx,convA,frame0,binA,intOp,sealLW,AV.pure,AV.pureL,keepT,x_box,bxx,x_buildSlice,bsx,x_load,ldx,x_fieldAddr,newK,genOf,setK,lookK,fillA,writeL,writeC,readC,conts,TyI.mk1,fieldAddrA,appendA,copyA,builtinA,AV.cells,gcH,reach,keysT,keepK,inKs,AV.keys,AV.keysL,Ty.isAgg,w_u8,sc_int,sc_bool,sc_sl,sc_mem,bs_kl,bs_length,bs_cells,sl_int,nat_1,bs_cons,s_site,s_stxN,cte,hk,L,m0,b2,m3,h31',G',g0,e1,h1,n2,bs_kl,bs_append,hc,d0]
    simp [↓s_seq,↓s_reg,↓s_cond,↓s_block,↓s_cons,s_nil,s_round,s_lpn,s_lpe,s_val,s_rgx,s_sqn,s_sqe,s_cdb,s_bkn,s_bke,s_exit,s_ret',s_skip',s_finr,s_fin1,s_fix,s_clean,o_tmp,o_int,l_hit,l_miss,ol_nil,ol_cons,ol_some,x_move,x_assign,x_bin,bn_s,x_callB,x_conv,cvx,convA,binA,intOp,resL,resA,results1,AV.pure,AV.pureL,keepT,x_buildSlice,bsx,newK,genOf,setK,lookK,fillA,writeL,writeC,conts,appendA,copyA,builtinA,AV.cells,gcH,reach,keysT,keepK,inKs,AV.keys,AV.keysL,Ty.isAgg,w_u8,w_i64,w_tdiv,w_tmod,sc_int,sc_mem,bs_pure,bs_kl,bs_length,bs_all,sl_row,sealRow,sealY,e2,e4,h2,n6,n8,n9,n10,n11,n12,n14,El.keysL_app,bs_kl,Rw.pureL_app,bs_pure,hc,hg4_,k3_,w_i64]
end F19
end
section
open Ab Go TabE Sp E34 F1 F4 F5 F17 F18
namespace F19
theorem pA (e:El) (he:e.ok) (hv:vld e.core) (hl:(enc e.core).length ≤ 60000) (N:Nat) (hN:∀ x ∈ e.s,Con E N 65 [x.av] (.sl false (bs (enc x.core)) none)) (hs:e.s=[]) (hb:e.b=[]):∃ N,Con E N 65 [e.av] (.sl false (bs (enc e.core)) none):=by
  obtain ⟨v1,v2,v3,v4⟩:=(vld_eq e).1 hv
  obtain ⟨t3,n3⟩:e.c ≤ 3 ∧ e.n ≤ 268435455:=by
    have:=v1; unfold tagE at this
    split at this
    · cases this
    · omega
  have tl:=tagO_len e.c e.k e.n
  have el:=enc_eq e
  obtain ⟨ct,hct⟩:∃ ct,e.b ++ encs (El.cores e.s)=ct:=⟨_,rfl⟩
  rw [hct] at el
  have lel:(enc e.core).length=(TG.tagO e.c e.k e.n).length + ((lenO (ct.length:Int)).length + ct.length):=by rw [el,List.length_append,List.length_append]
  have lct:ct.length=e.b.length + (encs (El.cores e.s)).length:=by rw [← hct,List.length_append]
  obtain ⟨K,hK⟩:∃ K,N + e.s.length + 60=K:=⟨_,rfl⟩
  obtain ⟨gc,G⟩:=dig e.n he.nb.1 (by omega)
  have G':=G K (by omega) 0
  refine ⟨K + 1,con_ofO E_fn65 (by simp [AV.pureL,El.av_pure]) (Nat.le_of_ble_eq_true rfl) rfl (g:=[]) ?_⟩
  rw [body_65,c65,el]
  have cc0:=he.cb.1
  have n0:=he.nb.1
  obtain ⟨K',rfl⟩:∃ K',K=K' + 4:=⟨K - 4,by omega⟩
  have tgl:e.n < 31 → TG.tagO e.c e.k e.n=[64 * e.c + (if e.k then 32 else 0) + e.n]:=fun h => by unfold TG.tagO; rw [if_pos h]
  have tgh:¬ e.n < 31 → TG.tagO e.c e.k e.n=(64 * e.c + (if e.k then 32 else 0) + 31) :: TG.grp e.n:=fun h => by unfold TG.tagO; rw [if_neg h]
  have gl:=tagO_len e.c e.k e.n
  have m0:31 ≤ e.n → (if 31 < e.n then (31:Int) else e.n)=31:=fun h => by split <;> omega
  have m1:e.n < 31 → (e.c * 64 + e.n) % 256=64 * e.c + e.n:=fun h => by omega
  have m2:e.n < 31 → (e.c * 64 + 32 + e.n) % 256=64 * e.c + 32 + e.n:=fun h => by omega
  have m3:(e.c * 64 + 31) % 256=64 * e.c + 31:=by omega
  have m4:(e.c * 64 + 32 + 31) % 256=64 * e.c + 32 + 31:=by omega
  have b0:¬ 31 ≤ e.n → ¬ 31 < e.n:=fun h => by omega
  have b1:¬ 31 ≤ e.n → ¬ 30 < e.n:=fun h => by omega
  have b2:31 ≤ e.n → 30 < e.n:=fun h => by omega
  have g0:TG.grp e.n ≠ [] ∧ (TG.grp e.n).length ≤ 4:=by unfold TG.grp; split <;> simp
  obtain ⟨gr,hgr⟩:∃ gr,TG.grp e.n=gr:=⟨_,rfl⟩
  rw [hgr] at G' tgh g0
  obtain ⟨g0,g4⟩:=g0
  have g1:0 < gr.length:=List.length_pos_iff.2 g0
  have e0:gr.length ≤ 70368744177664:=by omega
  have d0:ct.length ≤ 70368744177664:=by omega
  have gc0:gr.length + ct.length ≤ 70368744177664:=by omega
  have e1:gr.length ≤ 70368744177663:=by omega
  have c1:ct.length ≤ 70368744177663:=by omega
  have gc1:gr.length + ct.length ≤ 70368744177663:=by omega
  have e2:gr.length ≤ 70368744177662:=by omega
  have c2:ct.length ≤ 70368744177662:=by omega
  have gc2:gr.length + ct.length ≤ 70368744177662:=by omega
  have e3:gr.length ≤ 70368744177661:=by omega
  have c3:ct.length ≤ 70368744177661:=by omega
  have gc3:gr.length + ct.length ≤ 70368744177661:=by omega
  have e4:gr.length ≤ 70368744177660:=by omega
  have c4:ct.length ≤ 70368744177660:=by omega
  have gc4:gr.length + ct.length ≤ 70368744177660:=by omega
  have e5:gr.length ≤ 70368744177659:=by omega
  have c5:ct.length ≤ 70368744177659:=by omega
  have gc5:gr.length + ct.length ≤ 70368744177659:=by omega
  have e6:gr.length ≤ 70368744177658:=by omega
  have c6:ct.length ≤ 70368744177658:=by omega
  have gc6:gr.length + ct.length ≤ 70368744177658:=by omega
  have f1:¬ (1 + gr.length ≤ 1):=by omega
  have f2:1 + gr.length ≤ 70368744177664:=by omega
  have f3:1 + (gr.length + 1) ≤ 70368744177664:=by omega
  have f4:1 + (gr.length + (1 + ct.length)) ≤ 70368744177664:=by omega
  have f5:2 + ct.length ≤ 70368744177664:=by omega
  have f6:e.b.length ≤ 70368744177664:=by omega
  have f7:ct.length ≤ 70368744177664:=by omega
  have pl:∀ (l:List Int) (x:Int),AV.pureL (bs l ++ [AV.int .u8 x])=true:=fun l x => by rw [show bs l ++ [AV.int .u8 x]=bs (l ++ [x]) from (bs_append l [x]).symm]; exact bs_pure _
  have h1_:1 + ct.length ≤ 70368744177664:=by omega
  have hg1_:gr.length + 1 + ct.length ≤ 70368744177664:=by omega
  have h2_:2 + ct.length ≤ 70368744177664:=by omega
  have hg2_:gr.length + 2 + ct.length ≤ 70368744177664:=by omega
  have h3_:3 + ct.length ≤ 70368744177664:=by omega
  have hg3_:gr.length + 3 + ct.length ≤ 70368744177664:=by omega
  have h4_:4 + ct.length ≤ 70368744177664:=by omega
  have hg4_:gr.length + 4 + ct.length ≤ 70368744177664:=by omega
  have h5_:5 + ct.length ≤ 70368744177664:=by omega
  have hg5_:gr.length + 5 + ct.length ≤ 70368744177664:=by omega
  have hh2_:gr.length + 1 + 1 + ct.length ≤ 70368744177664:=by omega
  have hh3_:gr.length + 1 + 1 + 1 + ct.length ≤ 70368744177664:=by omega
  have hh4_:gr.length + 1 + 1 + 1 + 1 + ct.length ≤ 70368744177664:=by omega
  have hh5_:gr.length + 1 + 1 + 1 + 1 + 1 + ct.length ≤ 70368744177664:=by omega
  have j2_:(ct.length + 1 + 1=2 + ct.length)=True:=eq_true (by omega)
  have j3_:(ct.length + 1 + 1 + 1=3 + ct.length)=True:=eq_true (by omega)
  have j4_:(ct.length + 1 + 1 + 1 + 1=4 + ct.length)=True:=eq_true (by omega)
  have k1_:(gr.length + (ct.length + 1) + 1=gr.length + 1 + 1 + ct.length)=True:=eq_true (by omega)
  have k2_:(gr.length + (ct.length + 1 + 1) + 1=gr.length + 1 + 1 + 1 + ct.length)=True:=eq_true (by omega)
  have k3_:(gr.length + (ct.length + 1 + 1 + 1) + 1=gr.length + 1 + 1 + 2 + ct.length)=True:=eq_true (by omega)
  have k4_:(gr.length + (ct.length + 1 + 1 + 1) + 1=gr.length + 1 + 1 + 1 + 1 + ct.length)=True:=eq_true (by omega)
  have k5_:gr.length + 1 + 1 + 2 + ct.length ≤ 70368744177664:=by omega
  have k6_:gr.length + 1 + 1 + 3 + ct.length ≤ 70368744177664:=by omega
  have k7_:(gr.length + 1 + 1 + 2 ≤ 70368744177664)=True:=eq_true (by omega)
  have y0:(0:Int) ≤ ct.length:=by omega
  have le1:ct.length < 128 → lenO (ct.length:Int)=[(ct.length:Int)]:=fun h => by unfold lenO; rw [if_pos (by omega)]
  have le2:¬ ct.length < 128 → ct.length < 256 → lenO (ct.length:Int)=[129,(ct.length:Int)]:=fun h h' => by unfold lenO; rw [if_neg (by omega),if_pos (by omega)]
  have le3:¬ ct.length < 256 → lenO (ct.length:Int)=[130,(ct.length:Int) / 256,(ct.length:Int) % 256]:=fun h => by unfold lenO; rw [if_neg (by omega),if_neg (by omega),if_pos (by omega)]
  have n1:ct.length < 128 → ((ct.length:Int) < 128)=True:=fun h => eq_true (by omega)
  have n2:¬ ct.length < 128 → ((ct.length:Int) < 128)=False:=fun h => eq_false (by omega)
  have n3:ct.length < 256 → (ct.length:Int) % 256=ct.length:=fun h => by omega
  have n4:(ct.length:Int).tmod 256=(ct.length:Int) % 256:=Int.tmod_eq_emod_of_nonneg (by omega)
  have n5:(ct.length:Int).tdiv 256=(ct.length:Int) / 256:=Int.tdiv_eq_ediv_of_nonneg (by omega)
  have n6:(ct.length:Int) % 256 % 256=(ct.length:Int) % 256:=by omega
  have n7:ct.length < 256 → (ct.length:Int) / 256=0:=fun h => by omega
  have n8:¬ ct.length < 256 → (0 < (ct.length:Int) / 256)=True:=fun h => eq_true (by omega)
  have n9:((ct.length:Int) / 256).tmod 256=(ct.length:Int) / 256:=by rw [Int.tmod_eq_emod_of_nonneg (by omega)]; omega
  have n10:((ct.length:Int) / 256).tdiv 256=0:=by rw [Int.tdiv_eq_ediv_of_nonneg (by omega)]; omega
  have n11:(ct.length:Int) / 256 % 256=(ct.length:Int) / 256:=by omega
  have n12:=w64' ((ct.length:Int) / 256) (by omega) (by omega)
  have n13:=w64' ((ct.length:Int) % 256) (by omega) (by omega)
  have n14:ct ≠ [] → (0 < ct.length)=True:=fun h => eq_true (List.length_pos_iff.2 h)
  have L:=emp (K' + 4) (by omega) e hs
  have cte:ct=[]:=by rw [← hct,hb,hs]; rfl
  subst cte
  have lo:lenO (([]:List Int).length:Int)=[0]:=rfl
  rw [lo]
  by_cases h31:e.n < 31
  · have h31':¬ 31 ≤ e.n:=by omega
    rw [tgl h31]
    cases hk:e.k
    all_goals
      simp [LpE,bE,lp,lps,c65,firstReg,S0,ec,hb,bs_nil,hk] at L
      simp [El.av_eq,↓s_seq,↓s_reg,↓s_cond,↓s_block,↓s_cons,s_nil,s_loop,firstReg,s_val,s_rgx,s_sqn,s_cdb,s_bke,s_ret',s_skip',s_finr,s_fin1,s_fix,s_clean,o_tmp,o_int,o_nil,l_hit,l_miss,ol_nil,ol_cons,ol_some,x_move,x_assign,x_bin,bn_s,x_callB,x_conv,cvx,convA,frame0,binA,intOp,resL,resA,results1,AV.pure,AV.pureL,keepT,x_box,bxx,x_buildSlice,bsx,x_load,ldx,x_fieldAddr,newK,genOf,setK,lookK,fillA,writeL,writeC,readC,conts,TyI.mk1,fieldAddrA,appendA,copyA,builtinA,AV.cells,gcH,reach,keysT,keepK,inKs,AV.keys,AV.keysL,Ty.isAgg,w_u8,sc_int,sc_bool,sc_sl,sl_row,sealRow,sealY,bs_cons,bs_nil,hb,hk,L,b0,b1,m1,m2,h31,h31']
  · have h31':31 ≤ e.n:=by omega
    rw [tgh h31]
    cases hk:e.k
    all_goals
      simp [LpE,bE,lp,lps,c65,firstReg,S0,ec,hb,bs_nil,hk] at L
      simp [El.av_eq,↓s_seq,↓s_reg,↓s_cond,↓s_block,↓s_cons,s_nil,s_loop,firstReg,s_val,s_cax,s_ret,s_rgx,s_sqn,s_cdb,s_bke,s_ret',s_skip',s_finr,s_fin1,s_fix,s_clean,o_tmp,o_int,o_nil,l_hit,l_miss,ol_nil,ol_cons,ol_some,x_move,x_assign,x_bin,bn_s,x_callF,cl_no,x_callB,x_conv,cvx,convA,frame0,binA,intOp,resL,resA,results1,sealLW,AV.pure,AV.pureL,keepT,x_box,bxx,x_buildSlice,bsx,x_load,ldx,x_fieldAddr,newK,genOf,setK,lookK,fillA,writeL,writeC,readC,conts,TyI.mk1,fieldAddrA,appendA,copyA,builtinA,AV.cells,gcH,reach,keysT,keepK,inKs,AV.keys,AV.keysL,Ty.isAgg,w_u8,sc_int,sc_bool,sc_sl,sc_mem,bs_kl,bs_length,bs_cells,sl_row,sealRow,sealY,sl_int,nat_1,bs_cons,bs_nil,s_site,s_stxN,hb,hk,L,m0,b2,m3,m4,h31',G',e1,e2,g0,El.keysL_app,bs_kl,bs_append,pl]
end F19
end
section
open Ab Go TabE Sp E34 F1 F4 F5 F17 F18
namespace F19
theorem renc:∀ e:El,e.ok → vld e.core → (enc e.core).length ≤ 60000 → ∃ N,Con E N 65 [e.av] (.sl false (bs (enc e.core)) none):=by
  refine El.ind fun e ih he hv hl => ?_
  obtain ⟨v1,v2,v3,v4⟩:=(vld_eq e).1 hv
  obtain ⟨t3,n3⟩:e.c ≤ 3 ∧ e.n ≤ 268435455:=by
    have:=v1; unfold tagE at this
    split at this
    · cases this
    · omega
  have tl:=tagO_len e.c e.k e.n
  have el:=enc_eq e
  obtain ⟨ct,hct⟩:∃ ct,e.b ++ encs (El.cores e.s)=ct:=⟨_,rfl⟩
  rw [hct] at el
  have lel:(enc e.core).length=(TG.tagO e.c e.k e.n).length + ((lenO (ct.length:Int)).length + ct.length):=by rw [el,List.length_append,List.length_append]
  have lct:ct.length=e.b.length + (encs (El.cores e.s)).length:=by rw [← hct,List.length_append]
  have sub_le:∀ l:List El,∀ x ∈ l,(enc x.core).length ≤ (encs (El.cores l)).length:=by
    intro l
    induction l with
    | nil => intro x hx; cases hx
    | cons y l ih =>
      intro x hx
      rw [El.cores,encs,List.length_append]
      rcases List.mem_cons.1 hx with rfl | hx
      · omega
      · have:=ih x hx; omega
  obtain ⟨N,hN⟩:=unif (P:=fun (x:El) (n:Nat) => Con E n 65 [x.av] (.sl false (bs (enc x.core)) none)) (fun x n m h hm => h.mono hm) e.s (fun x hx => ih x hx (he.sub x hx) (vlds_all.1 v4 x hx) (by have:=sub_le _ x hx; omega))
  by_cases hs:e.s=[]
  · by_cases hb:e.b=[]
    · exact pA e he hv hl N hN hs hb
    · by_cases h31:e.n < 31
      · exact pClo e he hv hl N hN hs hb h31
      · exact pChi e he hv hl N hN hs hb h31
  · by_cases h31:e.n < 31
    · exact pBlo e he hv hl N hN hs h31
    · exact pBhi e he hv hl N hN hs h31
end F19
end
section
open Ab Go TabE
attribute [local simp ↓] s_seq s_reg s_regd s_cond s_block s_cons s_consG s_regD
attribute [local simp] s_nil s_loop s_round s_lpn s_lpe s_lpr firstReg s_gt s_gf s_wb s_wu s_val s_valN s_skip s_calls s_callP s_cax lookR flatR pureKs s_ret s_rgx s_sqn s_sqr s_sqe s_cdb s_bkn s_bkr s_bke s_exit s_ret' s_skip' s_finr s_finn s_fin1 s_fix s_clean s_gc0 o_tmp o_int o_bool o_nil o_str o_fn o_nil' l_hit l_miss l_nil ol_nil ol_cons ol_some x_move x_assign x_pick pk_t pk_f x_bin bn_s x_un x_extract x_callF cl_no x_callB x_callBF frzV x_conv cvx convA frame0 binA intOp resL resA results1 sealLW AV.pure AV.pureL keepT x_alloc x_box bxx x_build bdx x_buildSlice bsx x_buildSliceF bsf x_load ldx x_store stx x_slice slx x_fieldAddr x_field x_index ixx x_indexAddr iax x_makeSlice msx x_makeSliceF msf x_nilCheck newK genOf setK lookK fillA writeL writeC readC conts TyI.mk1 sliceA boundsA boundsB fitsA numA indexAddrA fieldAddrA partA fieldA indexA appendA copyA builtinA AV.cells chunk gcH reach keysT keepK inKs AV.keys AV.keysL Ty.isAgg eq1 eqL convA.go ltI w_u8 w_u32 w_u64 w_i64 w_fdiv w_tdiv w_tmod IntKind.bits unA sc_int sc_bool sc_str sc_sl sc_ref sc_ptr sc_pel sc_nilp sc_fn sc_nilf sc_if sc_nili sc_agg sc_tup sc_mem bs_pure bs_kl bs_length bs_cells bs_all sl_row sealRow sealY sl_int sl_bool sl_str sl_sl sl_nilp sl_nilf sl_nili sl_pel sl_agg sl_tup sl_fn sl_if nat_1 bs_cons bs_nil i_beq i_bne x_mkF x_mkI x_tassert x_panic s_pan s_sqp s_bkp s_finp s_fixp s_lpp s_rgp s_retp s_site s_stxN s_stxO x_callT clx El.avs_len s_dyn0 s_rgy barOf dynChk footL dynOK disjK keysOp opVals Op.operands
section
open Ab Go TabE Sp E34 F1 F4 F5 F23 F31 F36 F38 F39
namespace F40
abbrev LpR (K:Nat):=aLoop (aCode E (aCall E K) (dcall (aRun E K)) K 1 fn50 bR) (cleanS 1 ((firstReg bR).bind fn50.head))
abbrev OutR (f:Bool) (ps:List Int) (c:Option Nat) (n:Int) (e:El):AExit × St:=(.exit 0,⟨[(1,.sl f (ns ps) c),(2,.ptr (1,2,0) 0),(5,.int .i64 n),(6,.int .i64 (ps.length:Int)),(12,.bool false)],[((1,2,0),bx (ec e))]⟩)
theorem last (q k1:Nat) (f ps c) (n:Int) (e:El):rnd fn50 bR q k1 (F39.SR f ps c ps.length n e)=some (OutR f ps c n e):=by
  have ln:=ns_len ps
  simp [bR,lp,lps,c50,ln]
theorem encs (e:El) (g:Gd e):∃ N,∀ K,N ≤ K → (∃ c,∀ h,aCall E K 0 65 [e.av] h=some (.ret (.sl false (bs (enc e.core)) c),h)) ∧ ∀ x ∈ e.s,∃ c,∀ h,aCall E K 0 65 [x.av] h=some (.ret (.sl false (bs (enc x.core)) c),h):=by
  obtain ⟨N1,h1⟩:=F19.renc e g.ok g.vld g.len
  obtain ⟨N2,h2⟩:=unif (P:=fun (x:El) (n:Nat) => Con E n 65 [x.av] (.sl false (bs (enc x.core)) none)) (fun x n m h hm => h.mono hm) e.s (fun x hx => F19.renc x (g.sub hx).ok (g.sub hx).vld (g.sub hx).len)
  exact ⟨N1 + N2,fun K hK => ⟨⟨none,fun h => h1 K (by omega) 0 h⟩,fun x hx => ⟨none,fun h => h2 x hx K (by omega) 0 h⟩⟩⟩
theorem loop:∀ (r:List Int) (e x:El),Gd e → E34.walk e r=some x → ∃ N,∀ K,N ≤ K → ∀ (f:Bool) (ps:List Int) (c:Option Nat) (i k:Nat) (n:Int),ps.length ≤ 30 → ps.drop i=r → i ≤ ps.length → 0 ≤ n → n ≤ 60000 * i → r.length < k →
    LpR K k (F39.SR f ps c i n e)=some (OutR f ps c (n + ofs e r) x)
  | [],e,y,g,hw => ⟨0,fun K hK f ps c i k n lp' h1 hi n0 n1 hk => by
    obtain ⟨k,rfl⟩:∃ j,k=j + 1:=⟨k - 1,by omega⟩
    have q:=congrArg List.length h1
    rw [List.length_drop,List.length_nil] at q
    obtain rfl:i=ps.length:=by omega
    have h:=aLoop_end (k:=k) (last K K f ps c n e) (fun h => by cases h)
    unfold E34.walk at hw
    cases hw
    unfold ofs
    simpa using h⟩
  | p :: r,e,y,g,hw => by
    have sl:=g.sl
    unfold E34.walk at hw
    split at hw
    · cases hw
    rename_i p0
    split at hw
    case h_2 => cases hw
    rename_i x hx
    have hm:p.toNat < e.s.length:=(List.getElem?_eq_some_iff.1 hx).1
    have gx:=g.sub (List.mem_of_getElem? hx)
    obtain ⟨N1,h1⟩:=encs e g
    obtain ⟨N2,h2⟩:=loop r x y gx hw
    refine ⟨N1 + N2 + e.s.length + 20,fun K hK f ps c i k n lp' h1' hi n0 n1 hk => ?_⟩
    obtain ⟨k,rfl⟩:∃ j,k=j + 1:=⟨k - 1,by omega⟩
    have hp:ps[i]? = some p:=by
      have:=congrArg (fun l => l[0]?) h1'
      simpa [List.getElem?_drop] using this
    have hd:ps.drop (i + 1)=r:=by
      have:=congrArg List.tail h1'
      simpa [List.tail_drop] using this
    have q:=congrArg List.length h1'
    rw [List.length_drop,List.length_cons] at q
    have l1:=g.len
    have l2:=drop_le e.s p.toNat
    have l3:=encs_le e
    obtain ⟨⟨ca,c1⟩,c2⟩:=h1 K (by omega)
    have I:=iloop K f ps c n i e (by omega) c2 (e.s.drop p.toNat) p.toNat K 0 rfl (by omega) (by omega) (by omega) (by rw [List.length_drop]; omega)
    rw [Int.zero_add] at I
    have pp:((p.toNat:Nat):Int)=p:=Int.toNat_of_nonneg (by omega)
    have s:=F39.go K f ps c i n e x p.toNat (by rw [pp]; exact hp) (by omega) (by omega) hx n0 (by omega) _ ca _ (by omega) (by omega) (by omega) c1 I
    unfold LpR
    rw [aLoop_succ s]
    have h:=h2 K (by omega) f ps c (i + 1) k (n + (((enc e.core).length:Int) - (Sp.encs (El.cores (e.s.drop p.toNat))).length)) lp' hd (by omega) (by omega) (by push_cast; omega) (by simp at hk; omega)
    unfold LpR at h
    rw [h]
    have ho:ofs e (p :: r)=(((enc e.core).length:Int) - (Sp.encs (El.cores (e.s.drop p.toNat))).length) + ofs x r:=by
      conv => lhs; unfold ofs
      rw [hx]
    rw [ho,Int.add_assoc]
theorem offset (e x:El) (g:Gd e) (f:Bool) (ps:List Int) (c:Option Nat) (lp':ps.length ≤ 30) (hw:E34.walk e ps=some x):∃ N,Con E N 50 [e.av,.sl f (ns ps) c] (.int .i64 (ofs e ps)):=by
  obtain ⟨N1,h1⟩:=loop ps e x g hw
  obtain ⟨K,hK⟩:∃ K,N1 + 60=K:=⟨_,rfl⟩
  have L:=h1 K (by omega) f ps c 0 K 0 lp' rfl (by omega) (by omega) (by omega) (by omega)
  rw [Int.zero_add] at L
  have pn:=ns_pure ps
  refine ⟨K + 1,con_of E_fn50 (by simp [AV.pureL,AV.pure,El.av_pure,pn]) (Nat.le_of_ble_eq_true rfl) rfl rfl (g:=[]) ?_⟩
  rw [body_50,c50]
  simp [LpR,bR,lp,lps,c50,firstReg,F39.SR,ec] at L
  simp [El.av_eq,-s_round,L]
end F40
end
section
open Ab Go TabE Sp E34 F1 F4 F5 F23 F36
namespace F41
theorem report (e:El) (f:Bool) (ps:List Int) (c:Option Nat) (o er w:Int) (hw:w ≠ 0) (N:Nat) (C:Con E N 140 [e.av,.sl f (ns ps) c] (.tup [.int .i64 o,.int .i64 er])):Con E (N + 20) 102 [e.av,.agg [.sl f (ns ps) c,.int .i64 w]] (.tup [.int .i64 o,.int .i64 w]):=by
  obtain ⟨K,hK⟩:∃ K,N + 19=K:=⟨_,rfl⟩
  rw [show N + 20=K + 1 from by omega]
  have c1:=C K (by omega) 0
  have pn:=ns_pure ps
  rw [El.av_eq] at c1
  refine con_of E_fn102 (by simp [AV.pureL,AV.pure,El.av_pure,pn]) (Nat.le_of_ble_eq_true rfl) rfl rfl (g:=[]) ?_
  rw [body_102,c102]
  simp [El.av_eq,c1,hw]
end F41
end
end
