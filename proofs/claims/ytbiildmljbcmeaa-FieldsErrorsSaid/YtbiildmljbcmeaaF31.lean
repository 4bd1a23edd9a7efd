/- Own work, no conditions. -/
import Derived.Test.YtbiildmljbcmeaaE27
import Derived.Test.YtbiildmljbcmeaaF4
set_option maxRecDepth 20000
set_option linter.unusedSimpArgs false
set_option linter.unusedVariables false
set_option maxHeartbeats 16000000
section
open Ab Go TabE
attribute [local simp ↓] s_seq s_reg s_regd s_cond s_block s_cons s_consG s_regD
attribute [local simp] s_nil s_loop s_round s_lpn s_lpe s_lpr firstReg s_gt s_gf s_wb s_wu s_val s_valN s_skip s_calls s_callP s_cax lookR flatR pureKs s_ret s_rgx s_sqn s_sqr s_sqe s_cdb s_bkn s_bkr s_bke s_exit s_ret' s_skip' s_finr s_finn s_fin1 s_fix s_clean s_gc0 o_tmp o_int o_bool o_nil o_str o_fn o_nil' l_hit l_miss l_nil ol_nil ol_cons ol_some x_move x_assign x_pick pk_t pk_f x_bin bn_s x_un x_extract x_callF cl_no x_callB x_callBF frzV x_conv cvx convA frame0 binA intOp resL resA results1 sealLW AV.pure AV.pureL keepT x_alloc x_box bxx x_build bdx x_buildSlice bsx x_buildSliceF bsf x_load ldx x_store stx x_slice slx x_fieldAddr x_field x_index ixx x_indexAddr iax x_makeSlice msx x_makeSliceF msf x_nilCheck newK genOf setK lookK fillA writeL writeC readC conts TyI.mk1 sliceA boundsA boundsB fitsA numA indexAddrA fieldAddrA partA fieldA indexA appendA copyA builtinA AV.cells chunk gcH reach keysT keepK inKs AV.keys AV.keysL Ty.isAgg eq1 eqL convA.go ltI w_u8 w_u32 w_u64 w_i64 w_fdiv w_tdiv w_tmod IntKind.bits unA sc_int sc_bool sc_str sc_sl sc_ref sc_ptr sc_pel sc_nilp sc_fn sc_nilf sc_if sc_nili sc_agg sc_tup sc_mem bs_pure bs_kl bs_length bs_cells bs_all sl_row sealRow sealY sl_int sl_bool sl_str sl_sl sl_nilp sl_nilf sl_nili sl_pel sl_agg sl_tup sl_fn sl_if nat_1 bs_cons bs_nil i_beq i_bne x_mkF x_mkI x_tassert x_panic s_pan s_sqp s_bkp s_finp s_fixp s_lpp s_rgp s_retp s_site s_stxN s_stxO x_callT clx El.avs_len s_dyn0 s_rgy barOf dynChk footL dynOK disjK keysOp opVals Op.operands
section
open Ab Go TabE Sp E18 E20 E22 E23 E26
namespace E28
theorem sealX_fl (n:Nat) (h:Heap) (key:Key) (st:List El) (hk:lookK h key=some ⟨El.fl st,true,true,false,5,true⟩):sealX (n + 2) h (.ref key 0 st.length none)=some (.sl false (El.avs st) none,setK h key ⟨El.fl st,true,false,false,5,true⟩):=by
  unfold sealX sealA
  have hp:(AV.ref key 0 st.length none).pure=false:=rfl
  have f3:(El.fl st).take (st.length * 5)=El.fl st:=by rw [El.fl_take,List.take_length]
  simp only [hp,Bool.false_eq_true,if_false,hk]
  rw [if_pos ⟨trivial,by rw [El.fl_len]; omega,by simp⟩]
  simp only [List.drop_zero,f3]
  rw [sealL_of_pure n _ _ (El.fl_pure st)]
  simp only [El.fl_chunk]
theorem of (f:Bool) (q:Option Nat) (l:List G) (hl:∀ g ∈ l,g.ok) (ll:l.length ≤ 9223372036854775807):∃ N,Con E N 22 [.agg [.sl f (l.map G.av) q]] (ofE l).av:=by
  obtain ⟨N,hN⟩:=unif (P:=fun (i n:Nat) => ∀ g,l[i]? = some g → Con E n 40 [(nd g ((sq l i).drop ((sq l i).length - kk g (sq l i).length))).av] (.int .i64 (dep (nd g ((sq l i).drop ((sq l i).length - kk g (sq l i).length))).core))) (fun i n m h hm g hg => (h g hg).mono hm) (List.range 39) (fun i hi => by
    have hi':i < 39:=List.mem_range.1 hi
    cases hg:l[i]? with
    | none => exact ⟨0,fun g h => by cases h⟩
    | some g =>
      have iv:=inv l hl i (by omega)
      have ln:=cnts_len (sq l i)
      have w:=nd_W g (hl g (List.mem_of_getElem? hg)) ((sq l i).drop ((sq l i).length - kk g (sq l i).length)) (fun x hx => iv.2 x (List.mem_of_mem_drop hx)) (by rw [List.length_drop]; omega)
      obtain ⟨n,hn⟩:=E12.depth _ w.1 (by omega)
      exact ⟨n,fun g' h => by cases h; exact hn⟩)
  obtain ⟨K,hK⟩:∃ K,N + 100=K:=⟨_,rfl⟩
  have T:∀ g ∈ l,∀ k:Int,0 ≤ k → k < 256 → ∀ h,aCall E K 0 71 [.agg [.int .u8 g.c,.int .u8 k,.int .u32 g.n]] h=some (.ret (.agg [.int .u8 (g.c % 4),.bool (decide (k % 2=1)),.int .u32 (tn g.c k g.n)]),h):=fun g hg k k0 k1 h =>
    E20.of g.c k g.n (hl g hg).2.2.1 ⟨k0,k1⟩ (hl g hg).2.2.2.2.1 K (by omega) 0 h
  have D:=fun i g (hi:i < 39) (hx:l[i]? = some g) h => hN i (List.mem_range.2 hi) g hx K (by omega) 0 h
  refine ⟨K + 1,con_ofO E_fn22 (by simp [AV.pureL,AV.pure]) (Nat.le_of_ble_eq_true rfl) rfl (g:=[]) ?_⟩
  rw [body_22,c22]
  cases hc:l with
  | nil =>
    obtain ⟨k,hk⟩:∃ k,K=k + 1:=⟨K - 1,by omega⟩
    have L:aLoop (aCode E (site fn22 (aRun E K)) (dcall (aRun E K)) K 1 fn22 b22) (cleanS 1 ((firstReg b22).bind fn22.head)) K (S0 f [] q 0)=some (.exit 0,⟨[(1,.ptr (1,1,0) 0),(2,.ptr (1,2,0) 0),(3,.sl true [] (some 0)),(4,.int .i64 0),(17,.bool false)],[((1,1,0),bx [.sl f [] q]),((1,2,0),bx Z)]⟩):=by
      rw [hk]; exact aLoop_end (E27.last0 (k + 1) (k + 1) f q) (by simp)
    simp [b22,lp,lps,c22,firstReg,bx,Z,S0] at L
    have t:ofE []=.mk 0 true 16 true [] (some 0) true [] (some 0):=rfl
    rw [t]
    simp [-s_round,L,El.av,El.avs]
  | cons g r =>
    rw [← hc]
    have hx:l[0]? = some g:=by rw [hc]; rfl
    have l0:0 < l.length:=by rw [hc]; simp
    obtain ⟨key1,hk1,h1⟩:=E27.first K f q l hl ll g hx (T g (by rw [hc]; simp)) (by simpa [sq] using D 0 g (by omega) hx)
    obtain ⟨k,hk⟩:∃ k,K=k + 1:=⟨K - 1,by omega⟩
    obtain ⟨key,hkey,h2⟩:=E27.loop K f q l hl ll T D (min 39 l.length - 1) 1 key1 k hk1 (by omega) (by omega) (by omega)
    have L:aLoop (aCode E (site fn22 (aRun E K)) (dcall (aRun E K)) K 1 fn22 b22) (cleanS 1 ((firstReg b22).bind fn22.head)) K (S0 f (l.map G.av) q 0)=E27.Fin f q l key (sq l (min 39 l.length)):=by
      have hk':aLoop (aCode E (site fn22 (aRun E K)) (dcall (aRun E K)) K 1 fn22 b22) (cleanS 1 ((firstReg b22).bind fn22.head)) (k + 1) (S0 f (l.map G.av) q 0)=E27.Fin f q l key (sq l (min 39 l.length)):=by rw [aLoop_succ h1]; exact h2
      rwa [← hk] at hk'
    have hne:(sq l (min 39 l.length)).length ≠ 0:=by
      obtain ⟨j,hj⟩:∃ j,min 39 l.length=j + 1:=⟨min 39 l.length - 1,by omega⟩
      rw [hj]; exact sq_ne l j (by omega)
    have iv:=inv l hl (min 39 l.length) (by omega)
    have ln:=cnts_len (sq l (min 39 l.length))
    unfold ofE
    unfold E27.Fin at L
    generalize sq l (min 39 l.length)=st at L hne iv ln ⊢
    simp [b22,lp,lps,c22,firstReg,bx,Z,S0] at L
    have l1:=El.fl_len st
    have l2:=El.fl_keys st
    have l3:=El.fl_pure st
    by_cases one:st.length=1
    · obtain ⟨x,rfl⟩:∃ x,st=[x]:=List.length_eq_one_iff.1 one
      have t:top [x]=x:=rfl
      rw [t,El.av_eq]
      rw [El.fl_one] at L
      simp only [List.length_singleton] at L
      obtain ⟨m,rfl | rfl⟩:=hkey <;> simp [-s_round,L]
    · have t:top st=.mk 0 true 16 true [] (some 0) false st none:=by
        match st,hne,one with
        | x :: y :: r,_,_ => simp [top]
      have one':¬ ((st.length:Int)=1):=by omega
      rw [t,El.av]
      obtain ⟨m,rfl | rfl⟩:=hkey <;> simp [-s_round,L,one,one',l1,l2,l3,sealX_fl]
end E28
end
end
section
open Ab Go TabE Sp E18
namespace E29
theorem oct0 (v:Int):TG.oct v 0=v % 128:=by unfold TG.oct; simp
theorem oct1 (v:Int):TG.oct v 1=v / 128 % 128 + 128:=rfl
theorem oct2 (v:Int):TG.oct v 2=v / 16384 % 128 + 128:=rfl
theorem oct3 (v:Int):TG.oct v 3=v / 2097152 % 128 + 128:=rfl
theorem grp_cases (v:Int) (h0:0 ≤ v) (h1:v ≤ 268435455):(v < 128 ∧ TG.grp v=[v % 128]) ∨ (128 ≤ v ∧ v < 16384 ∧ TG.grp v=[v / 128 % 128 + 128,v % 128]) ∨ (16384 ≤ v ∧ v < 2097152 ∧ TG.grp v=[v / 16384 % 128 + 128,v / 128 % 128 + 128,v % 128]) ∨ (2097152 ≤ v ∧ TG.grp v=[v / 2097152 % 128 + 128,v / 16384 % 128 + 128,v / 128 % 128 + 128,v % 128]):=by
  unfold TG.grp TG.top
  by_cases a:v < 128
  · simp [a,oct0]
  by_cases b:v < 16384
  · right; left; simp [a,b,oct0,oct1]; omega
  by_cases c:v < 2097152
  · right; right; left; simp [a,b,c,oct0,oct1,oct2]; omega
  · right; right; right; simp [a,b,c,oct0,oct1,oct2,oct3]; omega
theorem grp_inj (v w:Int) (r r':List Int) (h0:0 ≤ v) (h1:v ≤ 268435455) (k0:0 ≤ w) (k1:w ≤ 268435455) (h:TG.grp v ++ r=TG.grp w ++ r'):v=w ∧ r=r':=by
  rcases grp_cases v h0 h1 with ⟨a,e⟩ | ⟨a,a',e⟩ | ⟨a,a',e⟩ | ⟨a,e⟩ <;> rcases grp_cases w k0 k1 with ⟨b,f⟩ | ⟨b,b',f⟩ | ⟨b,b',f⟩ | ⟨b,f⟩ <;> rw [e,f] at h <;> simp only [List.cons_append,List.nil_append,List.cons.injEq] at h
  · exact ⟨by omega,h.2⟩
  · omega
  · omega
  · omega
  · omega
  · exact ⟨by omega,h.2.2⟩
  · omega
  · omega
  · omega
  · omega
  · exact ⟨by omega,h.2.2.2⟩
  · omega
  · omega
  · omega
  · omega
  · exact ⟨by omega,h.2.2.2.2⟩
theorem tagO_inj (c c' n n':Int) (k k':Bool) (r r':List Int) (hc:0 ≤ c ∧ c ≤ 3) (hc':0 ≤ c' ∧ c' ≤ 3) (hn:0 ≤ n ∧ n ≤ 268435455) (hn':0 ≤ n' ∧ n' ≤ 268435455) (h:TG.tagO c k n ++ r=TG.tagO c' k' n' ++ r'):c=c' ∧ k=k' ∧ n=n' ∧ r=r':=by
  unfold TG.tagO at h
  by_cases a:n < 31 <;> by_cases b:n' < 31
  · rw [if_pos a,if_pos b] at h
    simp only [List.cons_append,List.nil_append,List.cons.injEq] at h
    obtain ⟨h1,h2⟩:=h
    cases k <;> cases k' <;> simp at h1 <;> first | exact ⟨by omega,rfl,by omega,h2⟩ | (exfalso; omega)
  · rw [if_pos a,if_neg b] at h
    simp only [List.cons_append,List.nil_append,List.cons.injEq] at h
    obtain ⟨h1,h2⟩:=h
    exfalso
    cases k <;> cases k' <;> simp at h1 <;> omega
  · rw [if_neg a,if_pos b] at h
    simp only [List.cons_append,List.nil_append,List.cons.injEq] at h
    obtain ⟨h1,h2⟩:=h
    exfalso
    cases k <;> cases k' <;> simp at h1 <;> omega
  · rw [if_neg a,if_neg b] at h
    simp only [List.cons_append,List.cons.injEq] at h
    obtain ⟨h1,h2⟩:=h
    obtain ⟨h3,h4⟩:=grp_inj n n' r r' hn.1 hn.2 hn'.1 hn'.2 h2
    cases k <;> cases k' <;> simp at h1 <;> first | exact ⟨by omega,rfl,h3,h4⟩ | (exfalso; omega)
theorem lenO_inj (n m:Int) (r r':List Int) (h0:0 ≤ n) (h1:n ≤ 16777215) (k0:0 ≤ m) (k1:m ≤ 16777215) (h:lenO n ++ r=lenO m ++ r'):n=m ∧ r=r':=by
  unfold lenO at h
  split at h <;> (try split at h) <;> (try split at h) <;> (try split at h) <;> (try split at h) <;> (try split at h) <;> simp only [List.cons_append,List.nil_append,List.cons.injEq] at h <;> first | (exfalso; omega) | exact ⟨by omega,h.2⟩ | exact ⟨by omega,h.2.2⟩ | exact ⟨by omega,h.2.2.2⟩ | exact ⟨by omega,h.2.2.2.2⟩
theorem tag_bd {e:El} (he:e.ok) (hv:vld e.core):(0 ≤ e.c ∧ e.c ≤ 3) ∧ 0 ≤ e.n ∧ e.n ≤ 268435455:=by
  have v:=((vld_eq e).1 hv).1
  unfold tagE at v
  by_cases q:3 < e.c ∨ 268435455 < e.n
  · rw [if_pos q] at v; cases v
  · have:=he.cb; have:=he.nb; omega
theorem encs_inj (n:Nat):∀ (l l':List El),(∀ x ∈ l,∀ y ∈ l',∀ r r',enc x.core ++ r=enc y.core ++ r' → x.core=y.core ∧ r=r') → encs (El.cores l)=encs (El.cores l') → El.cores l=El.cores l'
  | [],[],_,_ => rfl
  | [],y :: l',_,h => by
    exfalso
    rw [El.cores,El.cores,encs,encs] at h
    exact E17.enc_ne y (List.append_eq_nil_iff.1 h.symm).1
  | x :: l,[],_,h => by
    exfalso
    rw [El.cores,El.cores,encs,encs] at h
    exact E17.enc_ne x (List.append_eq_nil_iff.1 h).1
  | x :: l,y :: l',H,h => by
    rw [El.cores,El.cores,encs,encs] at h
    obtain ⟨h1,h2⟩:=H x (List.mem_cons_self ..) y (List.mem_cons_self ..) _ _ h
    rw [El.cores,El.cores,h1,encs_inj n l l' (fun x hx y hy => H x (List.mem_cons_of_mem _ hx) y (List.mem_cons_of_mem _ hy)) h2]
theorem enc_inj:∀ a b:El,a.ok → b.ok → vld a.core → vld b.core → (enc a.core).length ≤ 16777215 → (enc b.core).length ≤ 16777215 → ∀ r r',enc a.core ++ r=enc b.core ++ r' → a.core=b.core ∧ r=r':=by
  refine El.ind fun a ih b ha hb va vb la lb r r' h => ?_
  have ta:=tag_bd ha va
  have tb:=tag_bd hb vb
  obtain ⟨va1,va2,va3,va4⟩:=(vld_eq a).1 va
  obtain ⟨vb1,vb2,vb3,vb4⟩:=(vld_eq b).1 vb
  rw [enc_eq] at la lb
  rw [enc_eq,enc_eq] at h
  simp only [List.append_assoc] at h
  simp only [List.length_append] at la lb
  obtain ⟨h1,h2,h3,h4⟩:=tagO_inj _ _ _ _ _ _ _ _ ta.1 tb.1 ta.2 tb.2 h
  obtain ⟨h5,h6⟩:=lenO_inj _ _ _ _ (by omega) (by rw [List.length_append]; omega) (by omega) (by rw [List.length_append]; omega) h4
  rw [← List.append_assoc,← List.append_assoc] at h6
  obtain ⟨h7,h8⟩:=List.append_inj h6 (by omega)
  refine ⟨?_,h8⟩
  rw [El.core_inj]
  cases hk:a.k with
  | false =>
    have hk':b.k=false:=by rw [← h2,hk]
    have sa:=va3 hk
    have sb:=vb3 hk'
    rw [sa,sb] at h7 ⊢
    simp only [El.cores,encs,List.append_nil] at h7
    exact ⟨h1,by rw [hk'],h3,h7,rfl⟩
  | true =>
    have hk':b.k=true:=by rw [← h2,hk]
    have ba:=va2 hk
    have bb:=vb2 hk'
    rw [ba,bb] at h7 ⊢
    simp only [List.nil_append] at h7
    refine ⟨h1,by rw [hk'],h3,rfl,encs_inj 0 _ _ (fun x hx y hy r r' q => ?_) h7⟩
    have mx:=encs_mem hx
    have my:=encs_mem hy
    exact ih x hx y (ha.sub x hx) (hb.sub y hy) (vlds_all.1 va4 x hx) (vlds_all.1 vb4 y hy) (by omega) (by omega) r r' q
theorem enc_eq_iff (a b:El) (ha:a.ok) (hb:b.ok) (va:vld a.core) (vb:vld b.core) (la:(enc a.core).length ≤ 16777215) (lb:(enc b.core).length ≤ 16777215):a.core=b.core ↔ enc a.core=enc b.core :=
  ⟨fun h => by rw [h],fun h => (enc_inj a b ha hb va vb la lb [] [] (by rw [h])).1⟩
end E29
end
section
open Ab Go TabE
attribute [local simp ↓] s_seq s_reg s_regd s_cond s_block s_cons s_consG s_regD
attribute [local simp] s_nil s_loop s_round s_lpn s_lpe s_lpr firstReg s_gt s_gf s_wb s_wu s_val s_valN s_skip s_calls s_callP s_cax lookR flatR pureKs s_ret s_rgx s_sqn s_sqr s_sqe s_cdb s_bkn s_bkr s_bke s_exit s_ret' s_skip' s_finr s_finn s_fin1 s_fix s_clean s_gc0 o_tmp o_int o_bool o_nil o_str o_fn o_nil' l_hit l_miss l_nil ol_nil ol_cons ol_some x_move x_assign x_pick pk_t pk_f x_bin bn_s x_un x_extract x_callF cl_no x_callB x_callBF frzV x_conv cvx convA frame0 binA intOp resL resA results1 sealLW AV.pure AV.pureL keepT x_alloc x_box bxx x_build bdx x_buildSlice bsx x_buildSliceF bsf x_load ldx x_store stx x_slice slx x_fieldAddr x_field x_index ixx x_indexAddr iax x_makeSlice msx x_makeSliceF msf x_nilCheck newK genOf setK lookK fillA writeL writeC readC conts TyI.mk1 sliceA boundsA boundsB fitsA numA indexAddrA fieldAddrA partA fieldA indexA appendA copyA builtinA AV.cells chunk gcH reach keysT keepK inKs AV.keys AV.keysL Ty.isAgg eq1 eqL convA.go ltI w_u8 w_u32 w_u64 w_i64 w_fdiv w_tdiv w_tmod IntKind.bits unA sc_int sc_bool sc_str sc_sl sc_ref sc_ptr sc_pel sc_nilp sc_fn sc_nilf sc_if sc_nili sc_agg sc_tup sc_mem bs_pure bs_kl bs_length bs_cells bs_all sl_row sealRow sealY sl_int sl_bool sl_str sl_sl sl_nilp sl_nilf sl_nili sl_pel sl_agg sl_tup sl_fn sl_if nat_1 bs_cons bs_nil i_beq i_bne x_mkF x_mkI x_tassert x_panic s_pan s_sqp s_bkp s_finp s_fixp s_lpp s_rgp s_retp s_site s_stxN s_stxO x_callT clx El.avs_len s_dyn0 s_rgy barOf dynChk footL dynOK disjK keysOp opVals Op.operands
section
open Ab Go TabE Sp E18 E22 E26
namespace E30
theorem cmp_lt:∀ x y:List Int,cmpI x y=if ltI x y=true then -1 else if x=y then 0 else 1
  | [],[] => rfl
  | [],_ :: _ => by simp [cmpI,ltI]
  | _ :: _,[] => by simp [cmpI,ltI]
  | a :: x,b :: y => by
    have:=cmp_lt x y
    rw [cmpI]
    by_cases e:a=b
    · subst e; rw [if_pos rfl,this]; simp [ltI]
    · by_cases l:a < b <;> simp [ltI,e,l]
theorem cmp_neg:∀ x y:List Int,cmpI y x = - cmpI x y
  | [],[] => rfl
  | [],_ :: _ => rfl
  | _ :: _,[] => rfl
  | a :: x,b :: y => by
    have:=cmp_neg x y
    rw [cmpI,cmpI]
    by_cases e:a=b
    · subst e; rw [if_pos rfl,if_pos rfl,this]
    · rw [if_neg e,if_neg (fun h => e h.symm)]
      by_cases l:a < b
      · rw [if_pos l,if_neg (by omega)]; rfl
      · rw [if_neg l,if_pos (by omega)]
theorem law (f f':Bool) (q q':Option Nat) (l l':List G) (hl:∀ g ∈ l,g.ok) (hl':∀ g ∈ l',g.ok) (ll:l.length ≤ 9223372036854775807) (ll':l'.length ≤ 9223372036854775807):∃ N,Con E N 8 [.agg [.sl f (l.map G.av) q],.agg [.sl f' (l'.map G.av) q']] (.bool true):=by
  obtain ⟨N1,C1⟩:=E28.of f q l hl ll
  obtain ⟨N2,C2⟩:=E28.of f' q' l' hl' ll'
  have ga:=good l hl
  have gb:=good l' hl'
  generalize ofE l=a at C1 ga
  generalize ofE l'=b at C2 gb
  have la:=ga.len
  have lb:=gb.len
  obtain ⟨N3,C3⟩:=E17.rput a ga.ok ga.vld (by omega)
  obtain ⟨N4,C4⟩:=E17.rput b gb.ok gb.vld (by omega)
  obtain ⟨N5,C5⟩:=E10.put_ok a ga.ok ga.sm ga.chk (by omega)
  obtain ⟨N6,C6⟩:=E10.put_ok b gb.ok gb.sm gb.chk (by omega)
  have xa:=enc_B a ga.ok ga.vld (by omega)
  have xb:=enc_B b gb.ok gb.vld (by omega)
  have D1:=E14.compare a b _ _ _ _ _ _ xa xb (N5 + N6) _ _ (C5.mono (by omega)) (C6.mono (by omega))
  have D2:=E14.compare b a _ _ _ _ _ _ xb xa (N5 + N6) _ _ (C6.mono (by omega)) (C5.mono (by omega))
  have D3:=E14.compare a a _ _ _ _ _ _ xa xa (N5 + N6) _ _ (C5.mono (by omega)) (C5.mono (by omega))
  obtain ⟨N7,v,C7,hv⟩:=E14.same_ok a b ga.ok gb.ok ga.chk gb.chk
  have inj:=E29.enc_eq_iff a b ga.ok gb.ok ga.vld gb.vld (by omega) (by omega)
  rw [inj] at hv
  rw [cmp_neg] at D2
  rw [cmp_lt] at D1 D2
  rw [cmpI_refl] at D3
  have wa:=bs_go xa
  have wb:=bs_go xb
  obtain ⟨x,hx⟩:∃ x,enc a.core=x:=⟨_,rfl⟩
  obtain ⟨y,hy⟩:∃ y,enc b.core=y:=⟨_,rfl⟩
  rw [hx] at C3 hv wa
  rw [hy] at C4 hv wb
  rw [hx,hy] at D1 D2
  obtain ⟨K,hK⟩:∃ K,N1 + N2 + N3 + N4 + N5 + N6 + N7 + 300=K:=⟨_,rfl⟩
  have w1:=C1 K (by omega) 0
  have w2:=C2 K (by omega) 0
  have w3:=C3 K (by omega) 0
  have w4:=C4 K (by omega) 0
  have w7:=C7 K (by omega) 0
  have w8:=D1 K (by omega) 0
  have w9:=D2 K (by omega) 0
  have w10:=D3 K (by omega) 0
  have lv:=LV.l04 K (by omega) 0
  rw [El.av_eq] at w1 w2 w3 w4 w7 w8 w9 w10
  rw [El.av_eq b] at w7 w8
  rw [El.av_eq a] at w9
  clear C1 C2 C3 C4 C5 C6 C7 D1 D2 D3
  have nn:ltI x x=false:=by
    have:=cmp_lt x x
    rw [cmpI_refl] at this
    by_cases h:ltI x x=true
    · rw [if_pos h] at this; cases this
    · simpa using h
  refine ⟨K + 1,con_of E_fn8 (by simp [AV.pureL,AV.pure]) (Nat.le_of_ble_eq_true rfl) rfl rfl (g:=[]) ?_⟩
  rw [body_8,c8]
  by_cases h1:ltI x y=true
  · have ne:x ≠ y:=fun e => by rw [e] at h1 nn; rw [nn] at h1; cases h1
    have v0:v=false:=by cases v; rfl; exact absurd (hv.1 rfl) ne
    rw [v0] at w7
    rw [if_pos h1] at w8 w9
    simp [w1,w2,w3,w4,w7,w8,w9,w10,lv,wa,wb,h1,ne]
  by_cases h2:x=y
  · have v1:v=true:=hv.2 h2
    subst h2
    rw [v1] at w7
    rw [if_neg h1,if_pos rfl] at w8 w9
    simp [w1,w2,w3,w4,w7,w8,w9,w10,lv,wa,wb,nn]
  · have v0:v=false:=by cases v; rfl; exact absurd (hv.1 rfl) h2
    have h1':ltI x y=false:=by simpa using h1
    rw [v0] at w7
    rw [if_neg h1,if_neg h2] at w8 w9
    simp [w1,w2,w3,w4,w7,w8,w9,w10,lv,wa,wb,h1',h2]
end E30
end
section
open Ab Go TabE Sp E34 F1 F4 F5 F20
namespace F21
def od:El → List El → Nat → Option (Nat × Int)
  | _,[],_ => none
  | y,x :: r,i => if cmpI (enc y.core) (enc x.core)=1 then some (i,13) else if cmpI (enc y.core) (enc x.core)=0 then some (i,14) else od x r (i + 1)
def ods:List El → Option (Nat × Int)
  | [] => none
  | y :: r => od y r 1
def oP:Option (Nat × Int) → List Int
  | none => []
  | some (i,_) => [(i:Int)]
def oE:Option (Nat × Int) → Int
  | none => 0
  | some (_,w) => w
def Fn (e:El):Option (Nat × Int) → AExit × St
  | none => Out e
  | some (i,w) => Bad i w
theorem cmp3 (x y:List Int):cmpI x y = -1 ∨ cmpI x y=0 ∨ cmpI x y=1:=by
  rw [E30.cmp_lt]
  split
  · exact .inl rfl
  · split
    · exact .inr (.inl rfl)
    · exact .inr (.inr rfl)
abbrev LpO (K:Nat):=aLoop (aCode E (aCall E K) (dcall (aRun E K)) K 1 fn51 bO) (cleanS 1 ((firstReg bO).bind fn51.head))
abbrev Chk (K:Nat) (e:El):Prop:=∀ x ∈ e.s,∀ h,aCall E K 0 32 [x.av] h=some (.ret (.int .i64 0),h)
abbrev Cmp (K:Nat) (e:El):Prop:=∀ y ∈ e.s,∀ x ∈ e.s,∀ h,aCall E K 0 37 [y.av,x.av] h=some (.ret (.int .i64 (cmpI (enc y.core) (enc x.core))),h)
theorem loop (K:Nat) (hK:20 ≤ K) (e:El) (le:e.s.length ≤ 900) (A:Chk K e) (C:Cmp K e):∀ (r:List El) (y:El) (j k:Nat),e.s.drop j=y :: r → r.length < k → LpO K k (S e (j + 1))=some (Fn e (od y r (j + 1)))
  | [],y,j,k,h1,hk => by
    obtain ⟨k,rfl⟩:∃ i,k=i + 1:=⟨k - 1,by omega⟩
    have l:=congrArg List.length h1
    rw [List.length_drop,List.length_singleton] at l
    have:j + 1=e.s.length:=by omega
    rw [this]
    exact aLoop_end (last K K e) (fun h => by cases h)
  | x :: r,y,j,k,h1,hk => by
    obtain ⟨k,rfl⟩:∃ i,k=i + 1:=⟨k - 1,by omega⟩
    have l:=congrArg List.length h1
    rw [List.length_drop,List.length_cons,List.length_cons] at l
    have hy:e.s[j]? = some y:=by
      have:=congrArg (fun l => l[0]?) h1
      simpa [List.getElem?_drop] using this
    have hx:e.s[j + 1]? = some x:=by
      have:=congrArg (fun l => l[1]?) h1
      simpa [List.getElem?_drop] using this
    have hd:e.s.drop (j + 1)=x :: r:=by
      have:=congrArg List.tail h1
      simpa [List.tail_drop] using this
    have A':=A x (List.mem_of_getElem? hx)
    have C':=C y (List.mem_of_getElem? hy) x (List.mem_of_getElem? hx)
    unfold od
    rcases cmp3 (enc y.core) (enc x.core) with q | q | q <;> rw [q] at C' ⊢
    · rw [if_neg (by decide),if_neg (by decide)]
      unfold LpO
      rw [aLoop_succ (goS K K e x y j (by omega) hy hx A' C')]
      exact loop K hK e le A C r x (j + 1) k hd (by simp at hk; omega)
    · rw [if_neg (by decide),if_pos rfl]
      exact aLoop_end (badS K K e x y j 0 14 (.inr ⟨rfl,rfl⟩) (by omega) hK hy hx A' C') (fun h => by cases h)
    · rw [if_pos rfl]
      exact aLoop_end (badS K K e x y j 1 13 (.inl ⟨rfl,rfl⟩) (by omega) hK hy hx A' C') (fun h => by cases h)
end F21
end
section
open Ab Go TabE Sp E34 F1 F5
namespace FO
theorem sealM_pure:∀ (m:List Bool) (args:List AV) (h:Heap),AV.pureL args=true → sealM (sealA 20) m h args=some (args,h)
  | [],[],h,_ => rfl
  | [],x :: r,h,hp => by
    unfold sealM
    exact sealL_of_pure 19 _ h hp
  | true :: m,[],h,_ => rfl
  | false :: m,[],h,_ => rfl
  | b :: m,x :: r,h,hp => by
    have hp':x.pure=true ∧ AV.pureL r=true:=by simpa [AV.pureL] using hp
    have ih:=sealM_pure m r h hp'.2
    cases b
    · unfold sealM
      have:sealA 20 h x=some (x,h):=by unfold sealA; rw [if_pos hp'.1]
      rw [this]
      simp only [ih]
    · unfold sealM
      rw [ih]
theorem setK_same:∀ (h:Heap) (key:Key) (o:AObj),lookK h key=some o → setK h key o=h
  | [],key,o,h => by simp [lookK] at h
  | (k,x) :: r,key,o,h => by
    unfold lookK at h
    unfold setK
    by_cases e:k=key
    · rw [if_pos e] at h ⊢; cases h; rw [e]
    · rw [if_neg e] at h ⊢; rw [setK_same r key o h]
theorem op_fresh {run:RunF} {slot:Nat} {g:FuncId} {m:List Bool} {args:List AV} {h hf:Heap} {v:AV} (ks:List Key) (hp:AV.pureL args=true) (hr:run g args []=some (.ret v,hf))
    (e7:dd (reach hf 3 (AV.keysL [v]))=ks) (cl:closedH hf ks ks=true) (nk:∀ k ∈ ks,k.1 ≠ 0) (vk:(AV.keysL [v]).all (inKs ks)=true) :
    opened m false run slot g args h=some (.ret (AV.rn (outK [] ks slot (genOf h 1 slot)) v),putAll hf (outK [] ks slot (genOf h 1 slot)) ks h):=by
  unfold opened
  rw [sealM_pure m args h hp]
  simp only
  have e0:AV.keysL args=[]:=AV.keysL_pure _ hp
  rw [e0]
  have e2:dd (reach h 3 [])=[]:=rfl
  rw [e2]
  unfold lendA
  have e3:lendH h (inK []) []=some []:=rfl
  rw [e3]
  simp only [e0]
  rw [if_pos ⟨by rfl,by rfl⟩]
  have e5:AV.rnL (inK []) args=args:=rnL_pure args hp
  rw [e5,hr]
  have e9:lentKs 0=[]:=rfl
  simp only [backR,Bool.false_eq_true,if_false,backV,Ab.back,List.length_nil,e9,List.nil_append,e7,backA]
  have ok:ks.all (okK 0)=true:=List.all_eq_true.2 fun k hk => by simp [okK,nk k hk]
  have fl:ks.filter (fun k => !decide (k.1=0))=ks:=List.filter_eq_self.2 fun k hk => by simp [nk k hk]
  rw [if_pos ⟨cl,ok,vk,by rfl⟩]
  simp only [fl,AV.rnL]
abbrev fr (x:Int):AObj:=⟨[.int .i64 x],true,true,false,1,false⟩
def retF:Option (ARes × Heap) → Option (ARes × Option AObj)
  | some (r,h) => some (r,lookK h (1,14,0))
  | none => none
theorem retF_eq {x:Option (ARes × Heap)} {r a} (h:retF x=some (r,a)):∃ hf,x=some (r,hf) ∧ lookK hf (1,14,0)=a:=by
  unfold retF at h
  split at h
  · cases h; exact ⟨_,rfl,rfl⟩
  · cases h
theorem frun (e x:Int) (h:0 ≤ x):∃ hf,(∀ q,13 ≤ q → aRun E q 67 [.int .i64 e,.int .i64 x] []=some (.ret (.agg [.ref (1,14,0) 0 1 none,.int .i64 e]),hf)) ∧ lookK hf (1,14,0)=some (fr x):=by
  have key:retF (aRun E (12 + 1) 67 [.int .i64 e,.int .i64 x] [])=some (.ret (.agg [.ref (1,14,0) 0 1 none,.int .i64 e]),some (fr x)):=by
    rw [aRun_fn rfl E_fn67 rfl (Nat.le_of_ble_eq_true rfl),body_67,c67]
    simp [h,retF]
  obtain ⟨hf,h1,h2⟩:=retF_eq key
  exact ⟨hf,fun q hq => aRun_le E (12 + 1) q hq _ _ _ _ h1,h2⟩
theorem op_fault (e x:Int) (h0:0 ≤ x) (q:Nat) (hq:13 ≤ q) (m:List Bool) (slot:Nat) (h:Heap):opened m false (aRun E q) slot 67 [.int .i64 e,.int .i64 x] h=some (.ret (.agg [.ref (1,slot,genOf h 1 slot) 0 1 none,.int .i64 e]),setK h (1,slot,genOf h 1 slot) (fr x)):=by
  obtain ⟨hf,h1,h2⟩:=frun e x h0
  have:=op_fresh (m:=m) (slot:=slot) (h:=h) [(1,14,0)] (by rfl) (h1 q hq) (by simp [reach,h2,AV.keysL,AV.keys,dd]) (by simp [closedH,h2,AV.keysL,AV.keys]) (by simp) (by simp [AV.keysL,AV.keys,inKs])
  rw [this]
  simp [AV.rn,AV.rnL,outK,posK,putAll,h2]
end FO
end
end
section
open Ab Go TabE Sp E34 F1 F4 F5 F20 F21
namespace F22
def bR:Code:=lp c52 0
abbrev SR (e:El) (i:Nat):St:=⟨[(1,.ptr (1,1,0) 0),(2,.ptr (1,2,0) 0),(3,.int .i64 (i:Int))],[((1,1,0),bx (ec e)),((1,2,0),bx zc)]⟩
def sl (w:Int):Nat:=if w=13 then 32 else 37
abbrev BadR (i:Nat) (w:Int):AExit × St:=(.ret,⟨[(2,.ptr (1,2,0) 0)],[((1,2,0),bx [.ref (1,sl w,0) 0 1 none,.int .i64 w]),((1,sl w,0),FO.fr i)]⟩)
theorem cmpF (a b:List Int):(cmpI a b = -1 ∧ ltI a b=true ∧ a ≠ b) ∨ (cmpI a b=0 ∧ ltI a b=false ∧ a=b) ∨ (cmpI a b=1 ∧ ltI a b=false ∧ a ≠ b):=by
  have nn:∀ x,ltI x x=false:=fun x => by
    have:=E30.cmp_lt x x
    rw [E18.cmpI_refl] at this
    by_cases h:ltI x x=true
    · rw [if_pos h] at this; cases this
    · simpa using h
  rw [E30.cmp_lt]
  by_cases h:ltI a b=true
  · exact .inl ⟨by rw [if_pos h],h,fun e => by rw [e,nn] at h; cases h⟩
  · have h':ltI a b=false:=by simpa using h
    by_cases e:a=b
    · exact .inr (.inl ⟨by rw [if_neg h,if_pos e],h',e⟩)
    · exact .inr (.inr ⟨by rw [if_neg h,if_neg e],h',e⟩)
theorem goS (q k1:Nat) (e x y:El) (a b:List Int) (ca cb:Option Nat) (j:Nat) (hj:j < 1000) (hy:e.s[j]? = some y) (hx:e.s[j + 1]? = some x) (A:∀ h,aCall E q 0 84 [y.av] h=some (.ret (.sl false (bs a) ca),h)) (B:∀ h,aCall E q 0 84 [x.av] h=some (.ret (.sl false (bs b) cb),h)) (ab:isB a) (bb:isB b) (h1:ltI a b=true) (h2:a ≠ b):rndO fn52 bR q k1 (SR e (j + 1))=some (.normal,SR e (j + 1 + 1)):=by
  have hi:j + 1 < e.s.length:=(List.getElem?_eq_some_iff.1 hx).1
  have hi':(j:Int) + 1 < (e.s.length:Int):=by omega
  have ix:=El.at_ e.fs e.cs e.s (j + 1) x hx
  have iy:=El.at_ e.fs e.cs e.s j y hy
  have w:=w64' ((j:Int) + 1 + 1) (by omega) (by omega)
  have w2:=w64' (j:Int) (by omega) (by omega)
  have wa:=bs_go ab
  have wb:=bs_go bb
  try simp at ix
  rw [El.av_eq] at A B
  simp [bR,lp,lps,c52,↓s_seq,↓s_reg,↓s_cond,↓s_block,↓s_cons,s_nil,firstReg,s_val,s_cax,s_ret,s_rgx,s_sqn,s_cdb,s_bkn,s_skip',s_clean,o_tmp,o_int,l_hit,l_miss,ol_nil,ol_cons,ol_some,x_move,x_assign,x_bin,bn_s,x_callF,cl_no,x_callB,x_conv,cvx,convA,binA,intOp,sealLW,AV.pure,AV.pureL,keepT,x_load,ldx,x_fieldAddr,x_indexAddr,iax,newK,genOf,setK,lookK,writeL,writeC,readC,conts,TyI.mk1,fieldAddrA,appendA,copyA,builtinA,AV.cells,gcH,reach,keysT,keepK,inKs,AV.keys,AV.keysL,Ty.isAgg,bs_length,bs_cells,sl_agg,s_site,s_stxN,El.avs_len,ix,iy,w,w2,hi',A,B,wa,wb,h1,h2]
theorem badS (q k1:Nat) (e x y:El) (a b:List Int) (ca cb:Option Nat) (j:Nat) (v:Int) (hv:a ≠ b ∧ v=13 ∨ a=b ∧ v=14) (hq:20 ≤ q) (hj:j < 1000) (hy:e.s[j]? = some y) (hx:e.s[j + 1]? = some x) (A:∀ h,aCall E q 0 84 [y.av] h=some (.ret (.sl false (bs a) ca),h)) (B:∀ h,aCall E q 0 84 [x.av] h=some (.ret (.sl false (bs b) cb),h)) (ab:isB a) (bb:isB b) (h1:ltI a b=false):rndO fn52 bR q k1 (SR e (j + 1))=some (BadR (j + 1) v):=by
  have hi:j + 1 < e.s.length:=(List.getElem?_eq_some_iff.1 hx).1
  have hi':(j:Int) + 1 < (e.s.length:Int):=by omega
  have ix:=El.at_ e.fs e.cs e.s (j + 1) x hx
  have iy:=El.at_ e.fs e.cs e.s j y hy
  have w2:=w64' (j:Int) (by omega) (by omega)
  have wa:=bs_go ab
  have wb:=bs_go bb
  have f:=FO.op_fault v ((j:Int) + 1) (by omega) q (by omega)
  try simp at ix
  rw [El.av_eq] at A B
  rcases hv with ⟨h2,rfl⟩ | ⟨h2,rfl⟩
  · simp [bR,lp,lps,c52,↓s_seq,↓s_reg,↓s_cond,↓s_block,↓s_cons,s_nil,firstReg,s_val,s_skip,s_cax,s_ret,s_rgx,s_sqn,s_sqr,s_cdb,s_bkr,s_ret',s_skip',s_clean,o_tmp,o_int,l_hit,l_miss,ol_nil,ol_cons,ol_some,x_move,x_assign,x_bin,bn_s,x_callF,cl_no,x_callB,x_conv,cvx,convA,binA,intOp,sealLW,AV.pure,AV.pureL,keepT,x_load,ldx,x_store,stx,x_fieldAddr,x_indexAddr,iax,newK,genOf,setK,lookK,writeL,writeC,readC,conts,TyI.mk1,fieldAddrA,appendA,copyA,builtinA,AV.cells,gcH,reach,keysT,keepK,inKs,AV.keys,AV.keysL,Ty.isAgg,sc_int,sc_ref,bs_length,bs_cells,sl_agg,s_site,s_stxN,s_stxO,El.avs_len,ix,iy,w2,hi',A,B,wa,wb,h1,h2,f,sl]
  · subst h2
    simp [bR,lp,lps,c52,↓s_seq,↓s_reg,↓s_cond,↓s_block,↓s_cons,s_nil,firstReg,s_val,s_skip,s_cax,s_ret,s_rgx,s_sqn,s_sqr,s_cdb,s_bkr,s_ret',s_skip',s_clean,o_tmp,o_int,l_hit,l_miss,ol_nil,ol_cons,ol_some,x_move,x_assign,x_bin,bn_s,x_callF,cl_no,x_callB,x_conv,cvx,convA,binA,intOp,sealLW,AV.pure,AV.pureL,keepT,x_load,ldx,x_store,stx,x_fieldAddr,x_indexAddr,iax,newK,genOf,setK,lookK,writeL,writeC,readC,conts,TyI.mk1,fieldAddrA,appendA,copyA,builtinA,AV.cells,gcH,reach,keysT,keepK,inKs,AV.keys,AV.keysL,Ty.isAgg,sc_int,sc_ref,bs_length,bs_cells,sl_agg,s_site,s_stxN,s_stxO,El.avs_len,ix,iy,w2,hi',A,B,wa,h1,f,sl]
abbrev OutR (e:El) (i:Nat):AExit × St:=(.exit 0,⟨[(1,.ptr (1,1,0) 0),(2,.ptr (1,2,0) 0),(3,.int .i64 (i:Int)),(10,.bool false)],[((1,1,0),bx (ec e)),((1,2,0),bx zc)]⟩)
theorem last (q k1:Nat) (e:El):rndO fn52 bR q k1 (SR e e.s.length)=some (OutR e e.s.length):=by
  simp [bR,lp,lps,c52,↓s_seq,↓s_reg,↓s_cond,↓s_cons,s_nil,firstReg,s_val,s_rgx,s_sqn,s_sqe,s_cdb,s_exit,s_clean,o_tmp,l_hit,l_miss,ol_nil,ol_cons,ol_some,x_move,x_bin,bn_s,x_callB,binA,intOp,keepT,x_load,ldx,x_fieldAddr,newK,genOf,setK,lookK,writeL,writeC,readC,conts,TyI.mk1,fieldAddrA,appendA,copyA,builtinA,AV.cells,gcH,reach,keysT,keepK,inKs,AV.keys,AV.keysL,Ty.isAgg,El.avs_len]
theorem last0 (q k1:Nat) (e:El) (h:e.s=[]):rndO fn52 bR q k1 (SR e 1)=some (OutR e 1):=by
  simp [bR,lp,lps,c52,↓s_seq,↓s_reg,↓s_cond,↓s_cons,s_nil,firstReg,s_val,s_rgx,s_sqn,s_sqe,s_cdb,s_exit,s_clean,o_tmp,l_hit,l_miss,ol_nil,ol_cons,ol_some,x_move,x_bin,bn_s,x_callB,binA,intOp,keepT,x_load,ldx,x_fieldAddr,newK,genOf,setK,lookK,writeL,writeC,readC,conts,TyI.mk1,fieldAddrA,appendA,copyA,builtinA,AV.cells,gcH,reach,keysT,keepK,inKs,AV.keys,AV.keysL,Ty.isAgg,El.avs_len,h]
abbrev LpR (K:Nat):=aLoop (aCode E (site fn52 (aRun E K)) (dcall (aRun E K)) K 1 fn52 bR) (cleanS 1 ((firstReg bR).bind fn52.head))
abbrev Enc (K:Nat) (e:El):Prop:=∀ x ∈ e.s,isB (enc x.core) ∧ ∃ c,∀ h,aCall E K 0 84 [x.av] h=some (.ret (.sl false (bs (enc x.core)) c),h)
def Fn (i:Nat) (e:El):Option (Nat × Int) → AExit × St
  | none => OutR e i
  | some (i,w) => BadR i w
theorem loop (K:Nat) (hK:20 ≤ K) (e:El) (le:e.s.length ≤ 900) (A:Enc K e):∀ (r:List El) (y:El) (j k:Nat),e.s.drop j=y :: r → r.length < k → LpR K k (SR e (j + 1))=some (Fn e.s.length e (od y r (j + 1)))
  | [],y,j,k,h1,hk => by
    obtain ⟨k,rfl⟩:∃ i,k=i + 1:=⟨k - 1,by omega⟩
    have l:=congrArg List.length h1
    rw [List.length_drop,List.length_singleton] at l
    have:j + 1=e.s.length:=by omega
    rw [this]
    exact aLoop_end (last K K e) (fun h => by cases h)
  | x :: r,y,j,k,h1,hk => by
    obtain ⟨k,rfl⟩:∃ i,k=i + 1:=⟨k - 1,by omega⟩
    have l:=congrArg List.length h1
    rw [List.length_drop,List.length_cons,List.length_cons] at l
    have hy:e.s[j]? = some y:=by
      have:=congrArg (fun l => l[0]?) h1
      simpa [List.getElem?_drop] using this
    have hx:e.s[j + 1]? = some x:=by
      have:=congrArg (fun l => l[1]?) h1
      simpa [List.getElem?_drop] using this
    have hd:e.s.drop (j + 1)=x :: r:=by
      have:=congrArg List.tail h1
      simpa [List.tail_drop] using this
    obtain ⟨bx',cx,Cx⟩:=A x (List.mem_of_getElem? hx)
    obtain ⟨by',cy,Cy⟩:=A y (List.mem_of_getElem? hy)
    unfold od
    rcases cmpF (enc y.core) (enc x.core) with ⟨q,h1,h2⟩ | ⟨q,h1,h2⟩ | ⟨q,h1,h2⟩ <;> rw [q]
    · rw [if_neg (by decide),if_neg (by decide)]
      unfold LpR
      rw [aLoop_succ (goS K K e x y _ _ cy cx j (by omega) hy hx Cy Cx by' bx' h1 h2)]
      exact loop K hK e le A r x (j + 1) k hd (by simp at hk; omega)
    · rw [if_neg (by decide),if_pos rfl]
      exact aLoop_end (badS K K e x y _ _ cy cx j 14 (.inr ⟨h2,rfl⟩) hK (by omega) hy hx Cy Cx by' bx' h1) (fun h => by cases h)
    · rw [if_pos rfl]
      exact aLoop_end (badS K K e x y _ _ cy cx j 13 (.inl ⟨h2,rfl⟩) hK (by omega) hy hx Cy Cx by' bx' h1) (fun h => by cases h)
theorem loop0 (K:Nat) (hK:20 ≤ K) (e:El) (le:e.s.length ≤ 900) (A:Enc K e) (hk:e.s.length < K):∃ i,LpR K K (SR e 1)=some (Fn i e (ods e.s)):=by
  obtain ⟨k,hk'⟩:∃ i,K=i + 1:=⟨K - 1,by omega⟩
  cases hs:e.s with
  | nil =>
    have h:=aLoop_end (k:=k) (last0 K K e hs) (fun h => by cases h)
    rw [← hk'] at h
    exact ⟨1,h⟩
  | cons x r => exact ⟨_,loop K hK e le A r x 0 K (by rw [hs]; rfl) (by rw [hs] at hk; simp at hk; omega)⟩
end F22
end
section
open Ab Go TabE
attribute [local simp ↓] s_seq s_reg s_regd s_cond s_block s_cons s_consG
attribute [local simp] s_nil s_loop s_round s_lpn s_lpe s_lpr firstReg s_gt s_gf s_wb s_wu s_val s_valN s_skip s_calls s_callP s_cax lookR flatR pureKs s_ret s_rgx s_sqn s_sqr s_sqe s_cdb s_bkn s_bkr s_bke s_exit s_ret' s_skip' s_finr s_finn s_fin1 s_fix s_clean s_gc0 o_tmp o_int o_bool o_nil o_str o_fn o_nil' l_hit l_miss l_nil ol_nil ol_cons ol_some x_move x_assign x_pick pk_t pk_f x_bin bn_s x_un x_extract x_callF cl_no x_callB x_callBF frzV x_conv cvx convA frame0 binA intOp resL resA results1 sealLW AV.pure AV.pureL keepT x_alloc x_box bxx x_build bdx x_buildSlice bsx x_buildSliceF bsf x_load ldx x_store stx x_slice slx x_fieldAddr x_field x_index ixx x_indexAddr iax x_makeSlice msx x_makeSliceF msf x_nilCheck newK genOf setK lookK fillA writeL writeC readC conts TyI.mk1 sliceA boundsA boundsB fitsA numA indexAddrA fieldAddrA partA fieldA indexA appendA copyA builtinA AV.cells chunk gcH reach keysT keepK inKs AV.keys AV.keysL Ty.isAgg eq1 eqL convA.go ltI w_u8 w_u32 w_u64 w_i64 w_fdiv w_tdiv w_tmod IntKind.bits unA sc_int sc_bool sc_str sc_sl sc_ref sc_ptr sc_pel sc_nilp sc_fn sc_nilf sc_if sc_nili sc_agg sc_tup sc_mem bs_pure bs_kl bs_length bs_cells bs_all sl_row sealRow sealY sl_int sl_bool sl_str sl_sl sl_nilp sl_nilf sl_nili sl_pel sl_agg sl_tup sl_fn sl_if nat_1 bs_cons bs_nil i_beq i_bne x_mkF x_mkI x_tassert x_panic s_pan s_sqp s_bkp s_finp s_fixp s_lpp s_rgp s_retp s_site s_stxN s_stxO x_callT clx El.avs_len
section
open Ab Go TabE Sp E34 F1 F4 F5
namespace F17
theorem dig1 (v:Int) (h0:0 ≤ v) (h1:v < 128):Con E 20 108 [.int .u32 v] (.sl false [.int .u8 (TG.oct v 0)] (some 1)):=by
  refine con_of E_fn108 rfl (Nat.le_of_ble_eq_true rfl) rfl rfl (g:=[]) ?_
  rw [body_108,c108]
  have q1:v.tmod 128=v:=by rw [Int.tmod_eq_emod_of_nonneg h0]; omega
  have q2:v.tdiv 128=0:=by rw [Int.tdiv_eq_ediv_of_nonneg h0]; omega
  have q3:v % 256=v:=by omega
  have o:TG.oct v 0=v:=by unfold TG.oct; simp; omega
  simp [q1,q2,q3,o,w_i64]
theorem dig2 (v:Int) (h0:128 ≤ v) (h1:v < 16384):Con E 20 108 [.int .u32 v] (.sl false [.int .u8 (TG.oct v 1),.int .u8 (TG.oct v 0)] none):=by
  refine con_of E_fn108 rfl (Nat.le_of_ble_eq_true rfl) rfl rfl (g:=[]) ?_
  rw [body_108,c108]
  have q1:v.tmod 128=v % 128:=Int.tmod_eq_emod_of_nonneg (by omega)
  have q2:v.tdiv 128=v / 128:=Int.tdiv_eq_ediv_of_nonneg (by omega)
  have q3:v % 128 % 256=v % 128:=by omega
  have a1:0 < v / 128:=by omega
  have m1:v / 128 % 4294967296=v / 128:=by omega
  have q4:(v / 128).tmod 128=v / 128:=by rw [Int.tmod_eq_emod_of_nonneg (by omega)]; omega
  have q5:(v / 128).tdiv 128=0:=by rw [Int.tdiv_eq_ediv_of_nonneg (by omega)]; omega
  have m2:(128 + v / 128) % 4294967296=128 + v / 128:=by omega
  have q6:(128 + v / 128) % 256=128 + v / 128:=by omega
  have o0:TG.oct v 0=v % 128:=by unfold TG.oct; simp
  have o1:TG.oct v 1=128 + v / 128:=by unfold TG.oct; simp; omega
  simp [q1,q2,q3,a1,m1,m2,q4,q5,q6,o0,o1,w_i64]
theorem dig3 (v:Int) (h0:16384 ≤ v) (h1:v < 2097152):Con E 20 108 [.int .u32 v] (.sl false [.int .u8 (TG.oct v 2),.int .u8 (TG.oct v 1),.int .u8 (TG.oct v 0)] none):=by
  refine con_of E_fn108 rfl (Nat.le_of_ble_eq_true rfl) rfl rfl (g:=[]) ?_
  rw [body_108,c108]
  have q1:v.tmod 128=v % 128:=Int.tmod_eq_emod_of_nonneg (by omega)
  have q2:v.tdiv 128=v / 128:=Int.tdiv_eq_ediv_of_nonneg (by omega)
  have q3:v % 128 % 256=v % 128:=by omega
  have a1:0 < v / 128:=by omega
  have m1:v / 128 % 4294967296=v / 128:=by omega
  have q4:(v / 128).tmod 128=v / 128 % 128:=Int.tmod_eq_emod_of_nonneg (by omega)
  have q5:(v / 128).tdiv 128=v / 16384:=by rw [Int.tdiv_eq_ediv_of_nonneg (by omega)]; omega
  have a2:0 < v / 16384:=by omega
  have m3:v / 16384 % 4294967296=v / 16384:=by omega
  have q7:(v / 16384).tmod 128=v / 16384:=by rw [Int.tmod_eq_emod_of_nonneg (by omega)]; omega
  have q8:(v / 16384).tdiv 128=0:=by rw [Int.tdiv_eq_ediv_of_nonneg (by omega)]; omega
  have m2:(128 + v / 128 % 128) % 4294967296=128 + v / 128 % 128:=by omega
  have m4:(128 + v / 16384) % 4294967296=128 + v / 16384:=by omega
  have q6:(128 + v / 128 % 128) % 256=128 + v / 128 % 128:=by omega
  have q9:(128 + v / 16384) % 256=128 + v / 16384:=by omega
  have o0:TG.oct v 0=v % 128:=by unfold TG.oct; simp
  have o1:TG.oct v 1=128 + v / 128 % 128:=by unfold TG.oct; simp; omega
  have o2:TG.oct v 2=128 + v / 16384:=by unfold TG.oct; simp; omega
  simp [q1,q2,q3,a1,a2,m1,m2,m3,m4,q4,q5,q7,q8,q6,q9,o0,o1,o2,w_i64]
theorem dig4 (v:Int) (h0:2097152 ≤ v) (h1:v < 268435456):Con E 20 108 [.int .u32 v] (.sl false [.int .u8 (TG.oct v 3),.int .u8 (TG.oct v 2),.int .u8 (TG.oct v 1),.int .u8 (TG.oct v 0)] none):=by
  refine con_of E_fn108 rfl (Nat.le_of_ble_eq_true rfl) rfl rfl (g:=[]) ?_
  rw [body_108,c108]
  have q1:v.tmod 128=v % 128:=Int.tmod_eq_emod_of_nonneg (by omega)
  have q2:v.tdiv 128=v / 128:=Int.tdiv_eq_ediv_of_nonneg (by omega)
  have q3:v % 128 % 256=v % 128:=by omega
  have a1:0 < v / 128:=by omega
  have m1:v / 128 % 4294967296=v / 128:=by omega
  have q4:(v / 128).tmod 128=v / 128 % 128:=Int.tmod_eq_emod_of_nonneg (by omega)
  have q5:(v / 128).tdiv 128=v / 16384:=by rw [Int.tdiv_eq_ediv_of_nonneg (by omega)]; omega
  have a2:0 < v / 16384:=by omega
  have m3:v / 16384 % 4294967296=v / 16384:=by omega
  have q7:(v / 16384).tmod 128=v / 16384 % 128:=Int.tmod_eq_emod_of_nonneg (by omega)
  have q8:(v / 16384).tdiv 128=v / 2097152:=by rw [Int.tdiv_eq_ediv_of_nonneg (by omega)]; omega
  have a3:0 < v / 2097152:=by omega
  have m5:v / 2097152 % 4294967296=v / 2097152:=by omega
  have p7:(v / 2097152).tmod 128=v / 2097152:=by rw [Int.tmod_eq_emod_of_nonneg (by omega)]; omega
  have p8:(v / 2097152).tdiv 128=0:=by rw [Int.tdiv_eq_ediv_of_nonneg (by omega)]; omega
  have m2:(128 + v / 128 % 128) % 4294967296=128 + v / 128 % 128:=by omega
  have m4:(128 + v / 16384 % 128) % 4294967296=128 + v / 16384 % 128:=by omega
  have m6:(128 + v / 2097152) % 4294967296=128 + v / 2097152:=by omega
  have q6:(128 + v / 128 % 128) % 256=128 + v / 128 % 128:=by omega
  have q9:(128 + v / 16384 % 128) % 256=128 + v / 16384 % 128:=by omega
  have p9:(128 + v / 2097152) % 256=128 + v / 2097152:=by omega
  have o0:TG.oct v 0=v % 128:=by unfold TG.oct; simp
  have o1:TG.oct v 1=128 + v / 128 % 128:=by unfold TG.oct; simp; omega
  have o2:TG.oct v 2=128 + v / 16384 % 128:=by unfold TG.oct; simp; omega
  have o3:TG.oct v 3=128 + v / 2097152:=by unfold TG.oct; simp; omega
  simp [q1,q2,q3,a1,a2,a3,m1,m2,m3,m4,m5,m6,q4,q5,q7,q8,q6,q9,p7,p8,p9,o0,o1,o2,o3,w_i64]
theorem dig (v:Int) (h0:0 ≤ v) (h1:v ≤ 268435455):∃ c,Con E 20 108 [.int .u32 v] (.sl false (bs (TG.grp v)) c):=by
  unfold TG.grp TG.top
  by_cases a:v < 128
  · rw [if_pos a]; exact ⟨_,dig1 v h0 a⟩
  rw [if_neg a]
  by_cases b:v < 16384
  · rw [if_pos b]; exact ⟨_,dig2 v (by omega) b⟩
  rw [if_neg b]
  by_cases c:v < 2097152
  · rw [if_pos c]; exact ⟨_,dig3 v (by omega) c⟩
  rw [if_neg c]
  exact ⟨_,dig4 v (by omega) (by omega)⟩
end F17
end
section
open Ab Go TabE Sp E34 F1 F4 F5 F17
namespace F18
def bE:Code:=lp c84 0
abbrev S0 (e:El) (i:Nat):St:=⟨[(1,.ptr (1,1,0) 0),(3,.sl true [] (some 0)),(4,.int .i64 (i:Int))],[((1,1,0),bx (ec e))]⟩
abbrev SR (e:El) (i:Nat) (key:Key) (ys:List Int):St:=⟨[(1,.ptr (1,1,0) 0),(3,.ref key 0 ys.length none),(4,.int .i64 (i:Int))],[((1,1,0),bx (ec e)),(key,⟨bs ys,true,true,false,1,false⟩)]⟩
theorem first (q k1:Nat) (e x:El) (i:Nat) (xs:List Int) (c:Option Nat) (hx:e.s[i]? = some x) (le:e.s.length ≤ 9223372036854775807) (n0:xs ≠ []) (n1:xs.length ≤ 2000000) (B:∀ h,aCall E q 0 84 [x.av] h=some (.ret (.sl false (bs xs) c),h)) :
    rndO fn84 bE q k1 (S0 e i)=some (.normal,SR e (i + 1) (1,27,0) xs):=by
  have hi:i < e.s.length:=(List.getElem?_eq_some_iff.1 hx).1
  have ix:=El.at_ e.fs e.cs e.s i x hx
  have w:=w64' ((i:Int) + 1) (by omega) (by omega)
  have cp:xs.length ≤ 70368744177664:=by omega
  rw [El.av_eq] at B
  simp [bE,lp,lps,c84,-indexAddrA,ix,w,hi,B,n0,cp]
theorem next (q k1:Nat) (e x:El) (i m:Nat) (xs ys:List Int) (c:Option Nat) (hx:e.s[i]? = some x) (le:e.s.length ≤ 9223372036854775807) (n1:ys.length + xs.length ≤ 2000000) (B:∀ h,aCall E q 0 84 [x.av] h=some (.ret (.sl false (bs xs) c),h)) :
    rndO fn84 bE q k1 (SR e i (1,27,m) ys)=some (.normal,SR e (i + 1) (1,27,m + 1) (ys ++ xs)):=by
  have hi:i < e.s.length:=(List.getElem?_eq_some_iff.1 hx).1
  have ix:=El.at_ e.fs e.cs e.s i x hx
  have w:=w64' ((i:Int) + 1) (by omega) (by omega)
  have cp:ys.length + xs.length ≤ 70368744177664:=by omega
  have kk:AV.keysL (bs ys ++ bs xs)=[]:=by rw [← bs_append]; exact bs_kl _
  rw [El.av_eq] at B
  simp [bE,lp,lps,c84,-indexAddrA,ix,w,hi,B,cp,bs_append,kk]
theorem last0 (q k1:Nat) (e:El):rndO fn84 bE q k1 (S0 e e.s.length)=some (.exit 0,⟨[(1,.ptr (1,1,0) 0),(3,.sl true [] (some 0)),(4,.int .i64 (e.s.length:Int)),(17,.bool false)],[((1,1,0),bx (ec e))]⟩):=by
  simp [bE,lp,lps,c84]
theorem last (q k1:Nat) (e:El) (key:Key) (ys:List Int) (hkey:key=(1,12,0) ∨ ∃ m,key=(1,27,m)):rndO fn84 bE q k1 (SR e e.s.length key ys)=some (.exit 0,⟨[(1,.ptr (1,1,0) 0),(3,.ref key 0 ys.length none),(4,.int .i64 (e.s.length:Int)),(17,.bool false)],[((1,1,0),bx (ec e)),(key,⟨bs ys,true,true,false,1,false⟩)]⟩):=by
  rcases hkey with rfl | ⟨m,rfl⟩ <;> simp [bE,lp,lps,c84]
end F18
end
end
section
open Ab Go TabE Sp E12 E18 E26 E34 E36 F1 F4 F5 F20 F21 F22
namespace F23
structure Gd (x:El):Prop where
  ok:x.ok
  vld:vld x.core
  fw:Fw 1000 x
  dep:dep x.core ≤ 16
  cnt:cnt x.core ≤ 60
  len:(enc x.core).length ≤ 60000
theorem Gd.sub {e x:El} (g:Gd e) (hx:x ∈ e.s):Gd x:=by
  obtain ⟨v1,v2,v3,v4⟩:=(vld_eq e).1 g.vld
  have f:=g.fw
  obtain ⟨_,h1,h2⟩:=f
  have d:=g.dep
  rw [dep_eq] at d
  have c:=g.cnt
  rw [cnt_eq] at c
  have:=deps_mem hx
  have:=cnts_mem hx
  have l:=g.len
  have lm:=encs_mem hx
  rw [enc_eq,List.length_append,List.length_append,List.length_append] at l
  exact ⟨g.ok.sub x hx,vlds_all.1 v4 x hx,h2 x hx,by omega,by omega,by omega⟩
theorem Gd.chk {e:El} (g:Gd e):(chk e.core 1 0 0).1=0:=chk_of _ _ _ _ g.vld (by have:=g.dep; omega) (by have:=g.cnt; omega)
theorem Gd.sm {e:El} (g:Gd e):e.sm:=fw_sm (by omega) e g.fw (by have:=g.cnt; omega)
theorem Gd.sl {e:El} (g:Gd e):e.s.length ≤ 60:=by
  have c:=g.cnt
  rw [cnt_eq] at c
  have:=cnts_len e.s
  omega
end F23
end
section
open Ab Go TabE
attribute [local simp ↓] s_seq s_reg s_regd s_cond s_block s_cons s_consG s_regD
attribute [local simp] s_nil s_loop s_round s_lpn s_lpe s_lpr firstReg s_gt s_gf s_wb s_wu s_val s_valN s_skip s_calls s_callP s_cax lookR flatR pureKs s_ret s_rgx s_sqn s_sqr s_sqe s_cdb s_bkn s_bkr s_bke s_exit s_ret' s_skip' s_finr s_finn s_fin1 s_fix s_clean s_gc0 o_tmp o_int o_bool o_nil o_str o_fn o_nil' l_hit l_miss l_nil ol_nil ol_cons ol_some x_move x_assign x_pick pk_t pk_f x_bin bn_s x_un x_extract x_callF cl_no x_callB x_callBF frzV x_conv cvx convA frame0 binA intOp resL resA results1 sealLW AV.pure AV.pureL keepT x_alloc x_box bxx x_build bdx x_buildSlice bsx x_buildSliceF bsf x_load ldx x_store stx x_slice slx x_fieldAddr x_field x_index ixx x_indexAddr iax x_makeSlice msx x_makeSliceF msf x_nilCheck newK genOf setK lookK fillA writeL writeC readC conts TyI.mk1 sliceA boundsA boundsB fitsA numA indexAddrA fieldAddrA partA fieldA indexA appendA copyA builtinA AV.cells chunk gcH reach keysT keepK inKs AV.keys AV.keysL Ty.isAgg eq1 eqL convA.go ltI w_u8 w_u32 w_u64 w_i64 w_fdiv w_tdiv w_tmod IntKind.bits unA sc_int sc_bool sc_str sc_sl sc_ref sc_ptr sc_pel sc_nilp sc_fn sc_nilf sc_if sc_nili sc_agg sc_tup sc_mem bs_pure bs_kl bs_length bs_cells bs_all sl_row sealRow sealY sl_int sl_bool sl_str sl_sl sl_nilp sl_nilf sl_nili sl_pel sl_agg sl_tup sl_fn sl_if nat_1 bs_cons bs_nil i_beq i_bne x_mkF x_mkI x_tassert x_panic s_pan s_sqp s_bkp s_finp s_fixp s_lpp s_rgp s_retp s_site s_stxN s_stxO x_callT clx El.avs_len s_dyn0 s_rgy barOf dynChk footL dynOK disjK keysOp opVals Op.operands
section
open Ab Go TabE Sp E34 F1 F4 F5 F20 F21
namespace F62
abbrev ce (x:El):Int:=(chk x.core 1 0 0).1
def odg:Option El → List El → Nat → Option (Nat × Int)
  | _,[],_ => none
  | none,x :: r,i => if ce x ≠ 0 then some (i,ce x) else odg (some x) r (i + 1)
  | some y,x :: r,i => if ce x ≠ 0 then some (i,ce x) else if cmpI (enc y.core) (enc x.core)=1 then some (i,13) else if cmpI (enc y.core) (enc x.core)=0 then some (i,14) else odg (some x) r (i + 1)
theorem badC (q k1:Nat) (e x:El) (i:Nat) (w:Int) (hw:w ≠ 0) (hq:20 ≤ q) (hx:e.s[i]? = some x) (A:∀ h,aCall E q 0 32 [x.av] h=some (.ret (.int .i64 w),h)):rnd fn51 bO q k1 (F20.S e i)=some (Bad i w):=by
  have hi:i < e.s.length:=(List.getElem?_eq_some_iff.1 hx).1
  have ix:=El.at_ e.fs e.cs e.s i x hx
  have f:=fun c => fone w (i:Int) c q (by omega) 0
  try simp [ns] at f
  rw [El.av_eq] at A
  simp [bO,lp,lps,c51,-indexAddrA,ix,hi,A,hw,f]
abbrev ChkG (K:Nat) (e:El):Prop:=∀ x ∈ e.s,∀ h,aCall E K 0 32 [x.av] h=some (.ret (.int .i64 (ce x)),h)
abbrev CmpG (K:Nat) (e:El):Prop:=∀ y ∈ e.s,∀ x ∈ e.s,ce y=0 → ce x=0 → ∀ h,aCall E K 0 37 [y.av,x.av] h=some (.ret (.int .i64 (cmpI (enc y.core) (enc x.core))),h)
theorem loop (K:Nat) (hK:20 ≤ K) (e:El) (le:e.s.length ≤ 900) (A:ChkG K e) (C:CmpG K e):∀ (r:List El) (y:El) (j k:Nat),e.s.drop j=y :: r → ce y=0 → r.length < k → LpO K k (F20.S e (j + 1))=some (Fn e (odg (some y) r (j + 1)))
  | [],y,j,k,h1,hc,hk => by
    obtain ⟨k,rfl⟩:∃ i,k=i + 1:=⟨k - 1,by omega⟩
    have l:=congrArg List.length h1
    rw [List.length_drop,List.length_singleton] at l
    have:j + 1=e.s.length:=by omega
    rw [this]
    exact aLoop_end (last K K e) (fun h => by cases h)
  | x :: r,y,j,k,h1,hc,hk => by
    obtain ⟨k,rfl⟩:∃ i,k=i + 1:=⟨k - 1,by omega⟩
    have l:=congrArg List.length h1
    rw [List.length_drop,List.length_cons,List.length_cons] at l
    have hy:e.s[j]? = some y:=by
      have:=congrArg (fun l => l[0]?) h1
      simpa [List.getElem?_drop] using this
    have hx:e.s[j + 1]? = some x:=by
      have:=congrArg (fun l => l[1]?) h1
      simpa [List.getElem?_drop] using this
    have hd:e.s.drop (j + 1)=x :: r:=by
      have:=congrArg List.tail h1
      simpa [List.tail_drop] using this
    have A':=A x (List.mem_of_getElem? hx)
    unfold odg
    by_cases cx:ce x=0
    · rw [if_neg (by simpa using cx)]
      have C':=C y (List.mem_of_getElem? hy) x (List.mem_of_getElem? hx) hc cx
      rw [cx] at A'
      rcases cmp3 (enc y.core) (enc x.core) with q | q | q <;> rw [q] at C' ⊢
      · rw [if_neg (by decide),if_neg (by decide)]
        unfold LpO
        rw [aLoop_succ (goS K K e x y j (by omega) hy hx A' C')]
        exact loop K hK e le A C r x (j + 1) k hd cx (by simp at hk; omega)
      · rw [if_neg (by decide),if_pos rfl]
        exact aLoop_end (badS K K e x y j 0 14 (.inr ⟨rfl,rfl⟩) (by omega) hK hy hx A' C') (fun h => by cases h)
      · rw [if_pos rfl]
        exact aLoop_end (badS K K e x y j 1 13 (.inl ⟨rfl,rfl⟩) (by omega) hK hy hx A' C') (fun h => by cases h)
    · rw [if_pos (by simpa using cx)]
      exact aLoop_end (badC K K e x (j + 1) (ce x) cx hK hx A') (fun h => by cases h)
theorem loop0 (K:Nat) (hK:20 ≤ K) (e:El) (le:e.s.length ≤ 900) (A:ChkG K e) (C:CmpG K e) (hk:e.s.length < K):LpO K K (F20.S e 0)=some (Fn e (odg none e.s 0)):=by
  obtain ⟨k,hk'⟩:∃ i,K=i + 1:=⟨K - 1,by omega⟩
  cases hs:e.s with
  | nil =>
    have:=last K K e
    rw [hs] at this
    have h:=aLoop_end (k:=k) this (by simp)
    rw [← hk'] at h
    exact h
  | cons x r =>
    have hx:e.s[0]? = some x:=by rw [hs]; rfl
    have A':=A x (List.mem_of_getElem? hx)
    unfold odg
    by_cases cx:ce x=0
    · rw [if_neg (by simpa using cx)]
      rw [cx] at A'
      have h:=loop K hK e le A C r x 0 k (by rw [hs]; rfl) cx (by rw [hs] at hk; simp at hk; omega)
      unfold LpO at h ⊢
      have h2:=aLoop_succ (k:=k) (go0 K K e x hx A')
      rw [← hk'] at h2
      rw [h2]
      exact h
    · rw [if_pos (by simpa using cx)]
      have h2:=aLoop_end (k:=k) (badC K K e x 0 (ce x) cx hK hx A') (fun h => by cases h)
      rw [← hk'] at h2
      exact h2
theorem ordered (K:Nat) (hK:20 ≤ K) (e:El) (le:e.s.length ≤ 900) (A:ChkG K e) (C:CmpG K e) (hk:e.s.length < K):∀ h,aCall E (K + 1) 0 51 [e.av] h=some (.ret (fF (oP (odg none e.s 0)) (oE (odg none e.s 0))),h):=by
  intro h
  have L:=loop0 K hK e le A C hk
  rw [aCall_fn rfl E_fn51 (by simp [AV.pureL,El.av_pure]) (Nat.le_of_ble_eq_true rfl) rfl rfl,body_51,c51]
  simp [LpO,bO,lp,lps,c51,firstReg,F20.S,ec] at L
  rcases ho:odg none e.s 0 with _ | ⟨i,w⟩
  · rw [ho] at L
    simp [El.av_eq,-s_round,L,F21.Fn,oP,oE]
  · rw [ho] at L
    simp [El.av_eq,-s_round,L,F21.Fn,oP,oE,ns]
end F62
end
section
open Ab Go TabE Sp E34 F1 F4 F5 F20 F21 F22
namespace F63
abbrev pr (y x:El) (f:Bool) (c:Option Nat):El:=.mk 0 false 0 true [] (some 0) f [y,x] c
def ret1 (k:Key):Option (ARes × Heap) → Option (ARes × Option AObj)
  | some (r,h) => some (r,lookK h k)
  | none => none
theorem ret1_eq {k:Key} {x:Option (ARes × Heap)} {r a} (h:ret1 k x=some (r,a)):∃ hf,x=some (r,hf) ∧ lookK hf k=a:=by
  unfold ret1 at h
  split at h
  · cases h; exact ⟨_,rfl,rfl⟩
  · cases h
theorem pr_av (y x f c):(pr y x f c).av=.agg [.int .u8 0,.bool false,.int .u32 0,.sl true [] (some 0),.sl f [y.av,x.av] c]:=by
  unfold pr; simp [El.av,El.avs,bs_nil]
theorem pair (y x:El) (f:Bool) (c:Option Nat) (K:Nat) (hK:20 ≤ K) (A:Enc K (pr y x f c)) (m:List Bool) (slot:Nat) (h:Heap) :
    opened m false (aRun E (K + 1)) slot 52 [(pr y x f c).av] h=(match od y [x] 1 with
      | none => some (.ret (.agg zc),h)
      | some (_,w) => some (.ret (.agg [.ref (1,slot,genOf h 1 slot) 0 1 none,.int .i64 w]),setK h (1,slot,genOf h 1 slot) (FO.fr 1))):=by
  obtain ⟨i0,L⟩:=F22.loop0 K hK (pr y x f c) (by simp [pr,El.s]) A (by simp [pr,El.s]; omega)
  have os:ods (pr y x f c).s=od y [x] 1:=rfl
  rw [os] at L
  have ha:AV.pureL [(pr y x f c).av]=true:=by simp [AV.pureL,El.av_pure]
  simp [LpR,bR,lp,lps,c52,firstReg,SR,ec] at L
  rcases ho:od y [x] 1 with _ | ⟨i,w⟩
  · rw [ho] at L
    have key:ret1 (1,2,0) (aRun E (K + 1) 52 [(pr y x f c).av] [])=some (.ret (.agg zc),some (bx zc)):=by
      rw [aRun_fn rfl E_fn52 rfl (Nat.le_of_ble_eq_true rfl),body_52,c52]
      rw [El.av_eq]
      simp [-s_round,L,F22.Fn,ret1]
    obtain ⟨hf,h1,h2⟩:=ret1_eq key
    simp only
    rw [FO.op_fresh (m:=m) (slot:=slot) (h:=h) [] ha h1 (by rfl) (by rfl) (by simp) (by rfl)]
    rfl
  · have hi:i=1:=by
      unfold od at ho
      split at ho
      · cases ho; rfl
      · split at ho
        · cases ho; rfl
        · unfold od at ho; cases ho
    subst hi
    rw [ho] at L
    simp only [F22.Fn,BadR] at L
    have key:ret1 (1,F22.sl w,0) (aRun E (K + 1) 52 [(pr y x f c).av] [])=some (.ret (.agg [.ref (1,F22.sl w,0) 0 1 none,.int .i64 w]),some (FO.fr 1)):=by
      rw [aRun_fn rfl E_fn52 rfl (Nat.le_of_ble_eq_true rfl),body_52,c52]
      rw [El.av_eq]
      have hs:F22.sl w=32 ∨ F22.sl w=37:=by unfold F22.sl; split <;> simp
      rcases hs with hs | hs <;> (rw [hs] at L ⊢; simp [-s_round,L,ret1])
    obtain ⟨hf,h1,h2⟩:=ret1_eq key
    simp only
    rw [FO.op_fresh (m:=m) (slot:=slot) (h:=h) [(1,F22.sl w,0)] ha h1 (by simp [reach,h2,AV.keysL,AV.keys,dd]) (by simp [closedH,h2,AV.keysL,AV.keys]) (by simp) (by simp [AV.keysL,AV.keys,inKs])]
    simp [AV.rn,AV.rnL,outK,posK,putAll,h2]
end F63
end
end
section
open Ab Go TabE Sp E34 F1 F4 F5 F20 F21 F62 F63
namespace F64
def bW:Code:=lp c16 0
inductive Wn where
  | no
  | lit (i:Nat) (w:Int)
  | giv (i:Nat) (w:Int)
def Wn.cells:Wn → List AV
  | .no => zc
  | .lit i w => [.sl false [.int .i64 i] none,.int .i64 w]
  | .giv _ w => [.ref (1,71,0) 0 1 none,.int .i64 w]
def Wn.row:Wn → Heap
  | .giv i _ => [((1,71,0),FO.fr i)]
  | _ => []
abbrev SW (f:Bool) (ps:List Int) (c:Option Nat) (z0 z1:Int) (e y:El) (i:Nat) (w:Wn):St:=⟨[(1,.sl f (ns ps) c),(3,.ptr (1,3,0) 0),(5,.ptr (1,5,0) 0),(8,.ptr (1,8,0) 0),(9,.ptr (1,9,0) 0),(10,.int .i64 (i:Int))],[((1,3,0),bx (ec e)),((1,5,0),bx [.int .i64 z0,.int .i64 z1]),((1,8,0),bx (ec y)),((1,9,0),bx w.cells)] ++ w.row⟩
theorem cut2 (f:Bool) (s:List El) (c:Option Nat) (j:Nat) (y x:El) (hy:s[j]? = some y) (hx:s[j + 1]? = some x):∀ h,sliceA E 28 (.sl f (El.avs s) c) (some (.int .i64 (j:Int))) (some (.int .i64 ((j:Int) + 2))) none h=some (.sl f [y.av,x.av] (c.map fun q => q - j)):=by
  intro h
  have hl:j + 1 < s.length:=(List.getElem?_eq_some_iff.1 hx).1
  have gy:=(List.getElem?_eq_some_iff.1 hy).2
  have gx:=(List.getElem?_eq_some_iff.1 hx).2
  have t:((El.avs s).take (j + 2)).drop j=[y.av,x.av]:=by
    rw [El.avs_map,List.drop_take,← List.map_drop,show j + 2 - j=2 from by omega]
    rw [List.drop_eq_getElem_cons (by omega:j < s.length),List.drop_eq_getElem_cons hl,gy,gx]
    rfl
  have n2:((j:Int) + 2).toNat=j + 2:=by omega
  have g1:(El.avs s)[j]? = some y.av:=by rw [El.avs_get,hy]; rfl
  have av:=El.av_cells y
  have n0:(0:Int) ≤ (j:Int) + 2:=by omega
  have le1:j + 2 ≤ s.length:=by omega
  simp [sliceA,boundsA,fitsA,numA,boundsB,t,n2,El.avs_len,g1,av,n0,le1]
theorem go0 (q k1:Nat) (f ps c z0 z1) (e y x:El) (hx:e.s[0]? = some x) (A:∀ h,aCall E q 0 32 [x.av] h=some (.ret (.int .i64 0),h)):rndO fn16 bW q k1 (SW f ps c z0 z1 e y 0 .no)=some (.normal,SW f ps c z0 z1 e y 1 .no):=by
  have hi:0 < e.s.length:=(List.getElem?_eq_some_iff.1 hx).1
  have hn:¬ e.s=[]:=fun h => by rw [h] at hi; simp at hi
  have ix:=El.at_ e.fs e.cs e.s 0 x hx
  try simp at ix
  rw [El.av_eq] at A
  simp [bW,lp,lps,c16,↓s_seq,↓s_reg,↓s_cond,↓s_block,↓s_cons,↓s_consG,s_nil,firstReg,s_gt,s_wb,s_val,s_cax,s_ret,s_rgx,s_sqn,s_cdb,s_bkn,s_skip',s_clean,o_tmp,o_int,l_hit,l_miss,ol_nil,ol_cons,ol_some,x_move,x_assign,x_pick,pk_t,x_bin,bn_s,x_callF,cl_no,x_callB,binA,intOp,sealLW,AV.pure,AV.pureL,keepT,x_load,ldx,x_fieldAddr,x_indexAddr,iax,newK,genOf,setK,lookK,writeL,writeC,readC,conts,TyI.mk1,fieldAddrA,appendA,copyA,builtinA,AV.cells,gcH,reach,keysT,keepK,inKs,AV.keys,AV.keysL,Ty.isAgg,w_i64,sl_agg,s_site,s_stxN,El.avs_len,ix,hi,A,Wn.cells,Wn.row]
theorem badC (q k1:Nat) (f ps c z0 z1) (e y x:El) (i:Nat) (li:i < 1000) (w:Int) (hw:w ≠ 0) (hq:20 ≤ q) (hx:e.s[i]? = some x) (A:∀ h,aCall E q 0 32 [x.av] h=some (.ret (.int .i64 w),h)):rndO fn16 bW q k1 (SW f ps c z0 z1 e y i .no)=some (.normal,SW f ps c z0 z1 e y (i + 1) (.lit i w)):=by
  have hi:i < e.s.length:=(List.getElem?_eq_some_iff.1 hx).1
  have ix:=El.at_ e.fs e.cs e.s i x hx
  have fr:=rone w (i:Int) (by omega) q (by omega) 0
  have w1:=w64' ((i:Int) + 1) (by omega) (by omega)
  try simp [ns] at fr
  rw [El.av_eq] at A
  simp [bW,lp,lps,c16,↓s_seq,↓s_reg,↓s_cond,↓s_block,↓s_cons,↓s_consG,s_nil,firstReg,s_gt,s_wb,s_val,s_skip,s_cax,s_ret,s_rgx,s_sqn,s_cdb,s_bkn,s_skip',s_clean,o_tmp,o_int,l_hit,l_miss,ol_nil,ol_cons,ol_some,x_move,x_assign,x_pick,pk_t,x_bin,bn_s,x_callF,cl_no,x_callB,binA,intOp,sealLW,AV.pure,AV.pureL,keepT,x_load,ldx,x_store,stx,x_fieldAddr,x_indexAddr,iax,newK,genOf,setK,lookK,writeL,writeC,readC,conts,TyI.mk1,fieldAddrA,appendA,copyA,builtinA,AV.cells,gcH,reach,keysT,keepK,inKs,AV.keys,AV.keysL,Ty.isAgg,sc_int,sc_sl,sl_int,sl_agg,i_bne,s_site,s_stxN,El.avs_len,ix,hi,A,hw,fr,w1,Wn.cells,Wn.row]
theorem goS (q k1:Nat) (f ps c z0 z1) (e y u x:El) (j:Nat) (lj:j < 1000) (hu:e.s[j]? = some u) (hx:e.s[j + 1]? = some x) (A:∀ h,aCall E q 0 32 [x.av] h=some (.ret (.int .i64 0),h)) (P:∀ m slot h,opened m false (aRun E q) slot 52 [(pr u x e.fs (e.cs.map fun q => q - j)).av] h=some (.ret (.agg zc),h)):rndO fn16 bW q k1 (SW f ps c z0 z1 e y (j + 1) .no)=some (.normal,SW f ps c z0 z1 e y (j + 1 + 1) .no):=by
  have hi:j + 1 < e.s.length:=(List.getElem?_eq_some_iff.1 hx).1
  have hi':(j:Int) + 1 < (e.s.length:Int):=by omega
  have ix:=El.at_ e.fs e.cs e.s (j + 1) x hx
  have cut:=cut2 e.fs e.s e.cs j u x hu hx
  have w1:=w64' ((j:Int) + 1 + 1) (by omega) (by omega)
  have w2:=w64' (j:Int) (by omega) (by omega)
  have e2:(j:Int) + 1 + 1=(j:Int) + 2:=by omega
  rw [e2] at w1
  try simp at ix
  rw [El.av_eq] at A
  rw [pr_av] at P
  simp [bW,lp,lps,c16,↓s_seq,↓s_reg,↓s_cond,↓s_block,↓s_cons,↓s_consG,s_nil,firstReg,s_gt,s_wb,s_val,s_skip,s_cax,s_ret,s_rgx,s_sqn,s_cdb,s_bkn,s_skip',s_clean,o_tmp,o_int,l_hit,l_miss,ol_nil,ol_cons,ol_some,x_move,x_assign,x_pick,pk_t,x_bin,bn_s,x_callF,cl_no,x_callB,binA,intOp,sealLW,AV.pure,AV.pureL,keepT,x_build,bdx,x_load,ldx,x_store,stx,x_slice,slx,x_fieldAddr,x_indexAddr,iax,newK,genOf,setK,lookK,fillA,writeL,writeC,readC,conts,TyI.mk1,fieldAddrA,appendA,copyA,builtinA,AV.cells,gcH,reach,keysT,keepK,inKs,AV.keys,AV.keysL,Ty.isAgg,sc_int,sc_sl,sl_agg,s_site,s_stxN,s_stxO,El.avs_len,ix,hi',A,cut,e2,w1,w2,P,Wn.cells,Wn.row]
theorem badO (q k1:Nat) (f ps c z0 z1) (e y u x:El) (j:Nat) (lj:j < 1000) (w:Int) (hw:w ≠ 0) (hu:e.s[j]? = some u) (hx:e.s[j + 1]? = some x) (A:∀ h,aCall E q 0 32 [x.av] h=some (.ret (.int .i64 0),h)) (P:∀ m slot h,opened m false (aRun E q) slot 52 [(pr u x e.fs (e.cs.map fun q => q - j)).av] h=some (.ret (.agg [.ref (1,slot,genOf h 1 slot) 0 1 none,.int .i64 w]),setK h (1,slot,genOf h 1 slot) (FO.fr 1))):rndO fn16 bW q k1 (SW f ps c z0 z1 e y (j + 1) .no)=some (.normal,SW f ps c z0 z1 e y (j + 1 + 1) (.giv (j + 1) w)):=by
  have hi:j + 1 < e.s.length:=(List.getElem?_eq_some_iff.1 hx).1
  have hi':(j:Int) + 1 < (e.s.length:Int):=by omega
  have ix:=El.at_ e.fs e.cs e.s (j + 1) x hx
  have cut:=cut2 e.fs e.s e.cs j u x hu hx
  have w1:=w64' ((j:Int) + 1 + 1) (by omega) (by omega)
  have w2:=w64' (j:Int) (by omega) (by omega)
  have e2:(j:Int) + 1 + 1=(j:Int) + 2:=by omega
  rw [e2] at w1
  try simp at ix
  rw [El.av_eq] at A
  rw [pr_av] at P
  have i71:∀ h,indexAddrA E 47 (.ref (1,71,0) 0 1 none) (.int .i64 0) h=some (.ptr (1,71,0) 0):=fun h => by simp [indexAddrA]
  simp [bW,lp,lps,c16,↓s_seq,↓s_reg,↓s_cond,↓s_block,↓s_cons,↓s_consG,s_nil,firstReg,s_gt,s_wb,s_val,s_skip,s_cax,s_ret,s_rgx,s_sqn,s_cdb,s_bkn,s_skip',s_clean,o_tmp,o_int,l_hit,l_miss,ol_nil,ol_cons,ol_some,x_move,x_assign,x_pick,pk_t,x_bin,bn_s,x_callF,cl_no,x_callB,binA,intOp,sealLW,AV.pure,AV.pureL,keepT,x_build,bdx,x_load,ldx,x_store,stx,x_slice,slx,x_fieldAddr,x_indexAddr,iax,newK,genOf,setK,lookK,fillA,writeL,writeC,readC,conts,TyI.mk1,fieldAddrA,appendA,copyA,builtinA,AV.cells,gcH,reach,keysT,keepK,inKs,AV.keys,AV.keysL,Ty.isAgg,sc_int,sc_sl,sc_ref,sl_agg,i_bne,s_site,s_stxN,s_stxO,El.avs_len,ix,hi',A,cut,e2,w1,w2,P,hw,i71,Wn.cells,Wn.row]
def Wn.er:Wn → Int
  | .no => 0
  | .lit _ w => w
  | .giv _ w => w
abbrev OutW (f:Bool) (ps:List Int) (c:Option Nat) (z0 z1:Int) (e y:El) (i:Nat) (w:Wn):AExit × St:=(.exit 0,⟨(SW f ps c z0 z1 e y i w).t ++ [(47,.bool false)],(SW f ps c z0 z1 e y i w).h⟩)
theorem last (q k1:Nat) (f ps c z0 z1) (e y:El):rndO fn16 bW q k1 (SW f ps c z0 z1 e y e.s.length .no)=some (OutW f ps c z0 z1 e y e.s.length .no):=by
  simp [bW,lp,lps,c16,↓s_seq,↓s_reg,↓s_cond,↓s_cons,↓s_consG,s_nil,firstReg,s_gf,s_wb,s_val,s_rgx,s_sqn,s_sqe,s_cdb,s_exit,s_clean,o_tmp,o_int,o_bool,l_hit,l_miss,ol_nil,ol_cons,ol_some,x_move,x_pick,pk_f,x_bin,bn_s,x_callB,binA,intOp,keepT,x_load,ldx,x_fieldAddr,newK,genOf,setK,lookK,writeL,writeC,readC,conts,TyI.mk1,fieldAddrA,appendA,copyA,builtinA,AV.cells,gcH,reach,keysT,keepK,inKs,AV.keys,AV.keysL,Ty.isAgg,El.avs_len,Wn.cells,Wn.row]
theorem stop (q k1:Nat) (f ps c z0 z1) (e y:El) (i:Nat) (w:Wn) (hw:w.er ≠ 0):rndO fn16 bW q k1 (SW f ps c z0 z1 e y i w)=some (OutW f ps c z0 z1 e y i w):=by
  cases w with
  | no => exact absurd rfl hw
  | lit a b =>
    have hb:¬ b=0:=hw
    by_cases h:i < e.s.length <;> simp [bW,lp,lps,c16,↓s_seq,↓s_reg,↓s_cond,↓s_cons,↓s_consG,s_nil,firstReg,s_gt,s_gf,s_wb,s_val,s_rgx,s_sqn,s_sqe,s_cdb,s_exit,s_clean,o_tmp,o_int,o_bool,l_hit,l_miss,ol_nil,ol_cons,ol_some,x_move,x_pick,pk_t,pk_f,x_bin,bn_s,x_callB,binA,intOp,keepT,x_load,ldx,x_fieldAddr,newK,genOf,setK,lookK,writeL,writeC,readC,conts,TyI.mk1,fieldAddrA,appendA,copyA,builtinA,AV.cells,gcH,reach,keysT,keepK,inKs,AV.keys,AV.keysL,Ty.isAgg,i_beq,El.avs_len,Wn.cells,Wn.row,hb,h]
  | giv a b =>
    have hb:¬ b=0:=hw
    by_cases h:i < e.s.length <;> simp [bW,lp,lps,c16,↓s_seq,↓s_reg,↓s_cond,↓s_cons,↓s_consG,s_nil,firstReg,s_gt,s_gf,s_wb,s_val,s_rgx,s_sqn,s_sqe,s_cdb,s_exit,s_clean,o_tmp,o_int,o_bool,l_hit,l_miss,ol_nil,ol_cons,ol_some,x_move,x_pick,pk_t,pk_f,x_bin,bn_s,x_callB,binA,intOp,keepT,x_load,ldx,x_fieldAddr,newK,genOf,setK,lookK,writeL,writeC,readC,conts,TyI.mk1,fieldAddrA,appendA,copyA,builtinA,AV.cells,gcH,reach,keysT,keepK,inKs,AV.keys,AV.keysL,Ty.isAgg,i_beq,El.avs_len,Wn.cells,Wn.row,hb,h]
def mt:Option (Nat × Int) → Wn → Prop
  | none,w => w=.no
  | some (i,v),w => v ≠ 0 ∧ (w=.lit i v ∨ w=.giv i v)
abbrev LpW (K:Nat):=aLoop (aCode E (site fn16 (aRun E K)) (dcall (aRun E K)) K 1 fn16 bW) (cleanS 1 ((firstReg bW).bind fn16.head))
abbrev EncG (K:Nat) (e:El):Prop:=∀ x ∈ e.s,ce x=0 → isB (enc x.core) ∧ ∃ c,∀ h,aCall E K 0 84 [x.av] h=some (.ret (.sl false (bs (enc x.core)) c),h)
theorem loop (K:Nat) (hK:20 ≤ K) (f ps c z0 z1) (e y:El) (le:e.s.length ≤ 900) (A:ChkG (K + 1) e) (C:EncG K e):∀ (r:List El) (u:El) (j k:Nat),e.s.drop j=u :: r → ce u=0 → r.length + 1 < k →
    ∃ i w,LpW (K + 1) k (SW f ps c z0 z1 e y (j + 1) .no)=some (OutW f ps c z0 z1 e y i w) ∧ mt (odg (some u) r (j + 1)) w
  | [],u,j,k,h1,hc,hk => by
    obtain ⟨k,rfl⟩:∃ i,k=i + 1:=⟨k - 1,by omega⟩
    have l:=congrArg List.length h1
    rw [List.length_drop,List.length_singleton] at l
    have:j + 1=e.s.length:=by omega
    rw [this]
    exact ⟨_,.no,aLoop_end (last (K + 1) (K + 1) f ps c z0 z1 e y) (fun h => by cases h),rfl⟩
  | x :: r,u,j,k,h1,hc,hk => by
    obtain ⟨k,rfl⟩:∃ i,k=i + 1 + 1:=⟨k - 2,by simp at hk; omega⟩
    have l:=congrArg List.length h1
    rw [List.length_drop,List.length_cons,List.length_cons] at l
    have hu:e.s[j]? = some u:=by
      have:=congrArg (fun l => l[0]?) h1
      simpa [List.getElem?_drop] using this
    have hx:e.s[j + 1]? = some x:=by
      have:=congrArg (fun l => l[1]?) h1
      simpa [List.getElem?_drop] using this
    have hd:e.s.drop (j + 1)=x :: r:=by
      have:=congrArg List.tail h1
      simpa [List.tail_drop] using this
    have A':=A x (List.mem_of_getElem? hx)
    unfold odg
    by_cases cx:ce x=0
    · rw [if_neg (by simpa using cx)]
      rw [cx] at A'
      have en:F22.Enc K (pr u x e.fs (e.cs.map fun q => q - j)):=fun z hz => by
        have hz:z=u ∨ z=x:=by simpa [pr,El.s] using hz
        rcases hz with rfl | rfl
        · exact C _ (List.mem_of_getElem? hu) hc
        · exact C _ (List.mem_of_getElem? hx) cx
      have P:=fun m slot h => F63.pair u x e.fs (e.cs.map fun q => q - j) K hK en m slot h
      unfold od at P
      rcases cmp3 (enc u.core) (enc x.core) with q | q | q <;> rw [q] at P ⊢
      · rw [if_neg (by decide),if_neg (by decide)]
        obtain ⟨i,w,h2,h3⟩:=loop K hK f ps c z0 z1 e y le A C r x (j + 1) (k + 1) hd cx (by simp at hk; omega)
        refine ⟨i,w,?_,h3⟩
        unfold LpW at h2 ⊢
        rw [aLoop_succ (goS (K + 1) (K + 1) f ps c z0 z1 e y u x j (by omega) hu hx A' (by simpa [od] using P))]
        exact h2
      · rw [if_neg (by decide),if_pos rfl]
        refine ⟨j + 1 + 1,.giv (j + 1) 14,?_,by simp,.inr rfl⟩
        unfold LpW
        rw [aLoop_succ (badO (K + 1) (K + 1) f ps c z0 z1 e y u x j (by omega) 14 (by decide) hu hx A' (by simpa using P))]
        exact aLoop_end (stop (K + 1) (K + 1) f ps c z0 z1 e y (j + 1 + 1) _ (by simp [Wn.er])) (fun h => by cases h)
      · rw [if_pos rfl]
        refine ⟨j + 1 + 1,.giv (j + 1) 13,?_,by simp,.inr rfl⟩
        unfold LpW
        rw [aLoop_succ (badO (K + 1) (K + 1) f ps c z0 z1 e y u x j (by omega) 13 (by decide) hu hx A' (by simpa using P))]
        exact aLoop_end (stop (K + 1) (K + 1) f ps c z0 z1 e y (j + 1 + 1) _ (by simp [Wn.er])) (fun h => by cases h)
    · rw [if_pos (by simpa using cx)]
      refine ⟨j + 1 + 1,.lit (j + 1) (ce x),?_,cx,.inl rfl⟩
      unfold LpW
      rw [aLoop_succ (badC (K + 1) (K + 1) f ps c z0 z1 e y x (j + 1) (by omega) (ce x) cx (by omega) hx A')]
      exact aLoop_end (stop (K + 1) (K + 1) f ps c z0 z1 e y (j + 1 + 1) _ cx) (fun h => by cases h)
theorem loop0 (K:Nat) (hK:20 ≤ K) (f ps c z0 z1) (e y:El) (le:e.s.length ≤ 900) (A:ChkG (K + 1) e) (C:EncG K e) (hk:e.s.length < K) :
    ∃ i w,LpW (K + 1) (K + 1) (SW f ps c z0 z1 e y 0 .no)=some (OutW f ps c z0 z1 e y i w) ∧ mt (odg none e.s 0) w:=by
  cases hs:e.s with
  | nil =>
    have h:=last (K + 1) (K + 1) f ps c z0 z1 e y
    rw [hs] at h
    exact ⟨0,.no,aLoop_end (k:=K) h (fun h => by cases h),rfl⟩
  | cons x r =>
    have hx:e.s[0]? = some x:=by rw [hs]; rfl
    have A':=A x (List.mem_of_getElem? hx)
    rw [hs] at hk
    simp at hk
    unfold odg
    by_cases cx:ce x=0
    · rw [if_neg (by simpa using cx)]
      rw [cx] at A'
      obtain ⟨i,w,h2,h3⟩:=loop K hK f ps c z0 z1 e y le A C r x 0 K (by rw [hs]; rfl) cx (by omega)
      refine ⟨i,w,?_,h3⟩
      unfold LpW at h2 ⊢
      rw [aLoop_succ (go0 (K + 1) (K + 1) f ps c z0 z1 e y x hx A')]
      exact h2
    · rw [if_pos (by simpa using cx)]
      obtain ⟨k,rfl⟩:∃ k,K=k + 1:=⟨K - 1,by omega⟩
      refine ⟨0 + 1,.lit 0 (ce x),?_,cx,.inl rfl⟩
      unfold LpW
      rw [aLoop_succ (badC (k + 1 + 1) (k + 1 + 1) f ps c z0 z1 e y x 0 (by omega) (ce x) cx (by omega) hx A')]
      exact aLoop_end (stop (k + 1 + 1) (k + 1 + 1) f ps c z0 z1 e y (0 + 1) _ cx) (fun h => by cases h)
end F64
end
section
open Ab Go TabE
attribute [local simp ↓] s_seq s_reg s_regd s_cond s_block s_cons s_consG s_regD
attribute [local simp] s_nil s_loop s_round s_lpn s_lpe s_lpr firstReg s_gt s_gf s_wb s_wu s_val s_valN s_skip s_calls s_callP s_cax lookR flatR pureKs s_ret s_rgx s_sqn s_sqr s_sqe s_cdb s_bkn s_bkr s_bke s_exit s_ret' s_skip' s_finr s_finn s_fin1 s_fix s_clean s_gc0 o_tmp o_int o_bool o_nil o_str o_fn o_nil' l_hit l_miss l_nil ol_nil ol_cons ol_some x_move x_assign x_pick pk_t pk_f x_bin bn_s x_un x_extract x_callF cl_no x_callB x_callBF frzV x_conv cvx convA frame0 binA intOp resL resA results1 sealLW AV.pure AV.pureL keepT x_alloc x_box bxx x_build bdx x_buildSlice bsx x_buildSliceF bsf x_load ldx x_store stx x_slice slx x_fieldAddr x_field x_index ixx x_indexAddr iax x_makeSlice msx x_makeSliceF msf x_nilCheck newK genOf setK lookK fillA writeL writeC readC conts TyI.mk1 sliceA boundsA boundsB fitsA numA indexAddrA fieldAddrA partA fieldA indexA appendA copyA builtinA AV.cells chunk gcH reach keysT keepK inKs AV.keys AV.keysL Ty.isAgg eq1 eqL convA.go ltI w_u8 w_u32 w_u64 w_i64 w_fdiv w_tdiv w_tmod IntKind.bits unA sc_int sc_bool sc_str sc_sl sc_ref sc_ptr sc_pel sc_nilp sc_fn sc_nilf sc_if sc_nili sc_agg sc_tup sc_mem bs_pure bs_kl bs_length bs_cells bs_all sl_row sealRow sealY sl_int sl_bool sl_str sl_sl sl_nilp sl_nilf sl_nili sl_pel sl_agg sl_tup sl_fn sl_if nat_1 bs_cons bs_nil i_beq i_bne x_mkF x_mkI x_tassert x_panic s_pan s_sqp s_bkp s_finp s_fixp s_lpp s_rgp s_retp s_site s_stxN s_stxO x_callT clx El.avs_len s_dyn0 s_rgy barOf dynChk footL dynOK disjK keysOp opVals Op.operands
section
open Ab Go TabE Sp E34 F1 F4 F5
namespace F31
abbrev z5:List AV:=[.int .u8 0,.bool false,.int .u32 0,.sl true [] (some 0),.sl true [] (some 0)]
def bA:Code:=lp c61 0
abbrev SA (f:Bool) (ps:List Int) (c:Option Nat) (i:Nat) (x:El):St:=⟨[(1,.sl f (ns ps) c),(2,.ptr (1,2,0) 0),(4,.ptr (1,4,0) 0),(6,.int .i64 (i:Int))],[((1,2,0),bx (ec x)),((1,4,0),bx z5)]⟩
theorem go (q k1:Nat) (f ps c) (i:Nat) (e x:El) (p:Int) (hp:ps[i]? = some p) (lp':ps.length ≤ 1000) (p0:0 ≤ p) (hx:e.s[p.toNat]? = some x):rnd fn61 bA q k1 (SA f ps c i e)=some (.normal,SA f ps c (i + 1) x):=by
  have hi:i < ps.length:=(List.getElem?_eq_some_iff.1 hp).1
  have hl:p.toNat < e.s.length:=(List.getElem?_eq_some_iff.1 hx).1
  have ip:=int_at f c ps i p hp
  have ix:=El.at_ e.fs e.cs e.s p.toNat x hx
  have pp:(p.toNat:Int)=p:=Int.toNat_of_nonneg p0
  rw [pp] at ix
  have w:=w64' ((i:Int) + 1) (by omega) (by omega)
  have p1:¬ p < 0:=by omega
  have p2:p < (e.s.length:Int):=by omega
  have p3:¬ ((e.s.length:Int) ≤ p):=by omega
  have lv:=El.avs_len e.s
  have ln:=ns_len ps
  simp [bA,lp,lps,c61,-indexAddrA,ip,ix,w,hi,p1,p2,p3,lv,p0,ln]
theorem bad (q k1:Nat) (f ps c) (i:Nat) (e:El) (p:Int) (hp:ps[i]? = some p) (lp':ps.length ≤ 1000) (h:p < 0 ∨ e.s.length ≤ p):rnd fn61 bA q k1 (SA f ps c i e)=some (.ret,⟨[(4,.ptr (1,4,0) 0),(5,.bool false)],[((1,4,0),bx z5)]⟩):=by
  have hi:i < ps.length:=(List.getElem?_eq_some_iff.1 hp).1
  have ip:=int_at f c ps i p hp
  have lv:=El.avs_len e.s
  have ln:=ns_len ps
  by_cases h0:p < 0
  · simp [bA,lp,lps,c61,-indexAddrA,ip,hi,h0,lv,ln]
  · have p2:(e.s.length:Int) ≤ p:=by omega
    have p3:¬ (p < (e.s.length:Int)):=by omega
    simp [bA,lp,lps,c61,-indexAddrA,ip,hi,h0,p2,p3,lv,ln]
abbrev BadA:AExit × St:=(.ret,⟨[(4,.ptr (1,4,0) 0),(5,.bool false)],[((1,4,0),bx z5)]⟩)
abbrev fin (f:Bool) (ps:List Int) (c:Option Nat) (e:El):AExit × St:=(.exit 0,⟨[(1,.sl f (ns ps) c),(2,.ptr (1,2,0) 0),(4,.ptr (1,4,0) 0),(6,.int .i64 (ps.length:Int)),(10,.bool false)],[((1,2,0),bx (ec e)),((1,4,0),bx z5)]⟩)
theorem last (q k1:Nat) (f ps c) (e:El):rnd fn61 bA q k1 (SA f ps c ps.length e)=some (fin f ps c e):=by
  have ln:=ns_len ps
  simp [bA,lp,lps,c61,ln]
def nx (e:El) (p:Int):El ⊕ (AExit × St):=if p < 0 then .inr BadA else match e.s[p.toNat]? with
  | some x => .inl x
  | none => .inr BadA
theorem run_walk (f ps c):∀ (r:List Int) (e:El),runL F31.nx (fin f ps c) r e=(match E34.walk e r with
    | some x => fin f ps c x
    | none => BadA)
  | [],e => rfl
  | p :: r,e => by
    unfold runL E34.walk F31.nx
    by_cases h:p < 0
    · rw [if_pos h,if_pos h]
    · rw [if_neg h,if_neg h]
      cases hx:e.s[p.toNat]? with
      | none => rfl
      | some x => exact run_walk f ps c r x
theorem rat (e:El) (f:Bool) (ps:List Int) (c:Option Nat) (lp':ps.length ≤ 1000):∃ N,Con E N 61 [e.av,.sl f (ns ps) c] (match E34.walk e ps with
    | some x => .tup [x.av,.bool true]
    | none => .tup [.agg z5,.bool false]):=by
  obtain ⟨K,hK⟩:∃ K,ps.length + 60=K:=⟨_,rfl⟩
  have L:=loopL (f:=aCode E (aCall E K) (dcall (aRun E K)) K 1 fn61 bA) (cl:=cleanS 1 ((firstReg bA).bind fn61.head)) ps (fun i e => SA f ps c i e) F31.nx (fin f ps c) (fun _ => True) (fun i p e hp _ => by
    refine ⟨fun x hx => ?_,fun r hr => ?_⟩
    · unfold F31.nx at hx
      by_cases h:p < 0
      · rw [if_pos h] at hx; cases hx
      · rw [if_neg h] at hx
        cases hq:e.s[p.toNat]? with
        | none => rw [hq] at hx; cases hx
        | some y =>
          rw [hq] at hx
          obtain rfl:y=x:=by cases hx; rfl
          exact ⟨F31.go K K f ps c i e y p hp lp' (by omega) hq,trivial⟩
    · unfold F31.nx at hr
      by_cases h:p < 0
      · rw [if_pos h] at hr; cases hr; exact ⟨bad K K f ps c i e p hp lp' (.inl h),by simp⟩
      · rw [if_neg h] at hr
        cases hq:e.s[p.toNat]? with
        | none =>
          rw [hq] at hr; cases hr
          exact ⟨bad K K f ps c i e p hp lp' (.inr (List.getElem?_eq_none_iff.1 hq |> fun h' => by omega)),by simp⟩
        | some y => rw [hq] at hr; cases hr) (fun e _ => ⟨last K K f ps c e,by simp⟩) ps 0 e K rfl (by omega) trivial (by omega)
  rw [run_walk] at L
  refine ⟨K + 1,con_of E_fn61 (by simp [AV.pureL,AV.pure,El.av_pure,ns_pure]) (Nat.le_of_ble_eq_true rfl) rfl rfl (g:=[]) ?_⟩
  rw [body_61,c61]
  cases hw:E34.walk e ps with
  | none =>
    rw [hw] at L
    simp [bA,lp,lps,c61,firstReg,SA,bx,ec] at L
    simp [El.av_eq,-s_round,L]
  | some x =>
    rw [hw] at L
    show _=some (ARes.ret (.tup [x.av,.bool true]),_)
    rw [El.av_eq x]
    simp [bA,lp,lps,c61,firstReg,SA,bx,ec,fin] at L
    simp [El.av_eq,-s_round,L]
end F31
end
end
