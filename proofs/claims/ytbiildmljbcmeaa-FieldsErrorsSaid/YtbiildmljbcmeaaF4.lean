/- Own work, no conditions. -/
import Derived.Test.YtbiildmljbcmeaaE25
import Derived.Test.YtbiildmljbcmeaaP5
import Derived.Test.YtbiildmljbcmeaaB40
import Derived.KernelRfl
set_option maxRecDepth 20000
set_option linter.unusedSimpArgs false
set_option linter.unusedVariables false
set_option maxHeartbeats 16000000
section
open Ab Go TabE
attribute [local simp ↓] s_seq s_reg s_regd s_cond s_block s_cons s_consG s_regD
attribute [local simp] s_nil s_loop s_round s_lpn s_lpe s_lpr firstReg s_gt s_gf s_wb s_wu s_val s_valN s_skip s_calls s_callP s_cax lookR flatR pureKs s_ret s_rgx s_sqn s_sqr s_sqe s_cdb s_bkn s_bkr s_bke s_exit s_ret' s_skip' s_finr s_finn s_fin1 s_fix s_clean s_gc0 o_tmp o_int o_bool o_nil o_str o_fn o_nil' l_hit l_miss l_nil ol_nil ol_cons ol_some x_move x_assign x_pick pk_t pk_f x_bin bn_s x_un x_extract x_callF cl_no x_callB x_callBF frzV x_conv cvx convA frame0 binA intOp resL resA results1 sealLW AV.pure AV.pureL keepT x_alloc x_box bxx x_build bdx x_buildSlice bsx x_buildSliceF bsf x_load ldx x_store stx x_slice slx x_fieldAddr x_field x_index ixx x_indexAddr iax x_makeSlice msx x_makeSliceF msf x_nilCheck newK genOf setK lookK fillA writeL writeC readC conts TyI.mk1 sliceA boundsA boundsB fitsA numA indexAddrA fieldAddrA partA fieldA indexA appendA copyA builtinA AV.cells chunk gcH reach keysT keepK inKs AV.keys AV.keysL Ty.isAgg eq1 eqL convA.go ltI w_u8 w_u32 w_u64 w_i64 w_fdiv w_tdiv w_tmod IntKind.bits unA sc_int sc_bool sc_str sc_sl sc_ref sc_ptr sc_pel sc_nilp sc_fn sc_nilf sc_if sc_nili sc_agg sc_tup sc_mem bs_pure bs_kl bs_length bs_cells bs_all sl_row sealRow sealY sl_int sl_bool sl_str sl_sl sl_nilp sl_nilf sl_nili sl_pel sl_agg sl_tup sl_fn sl_if nat_1 bs_cons bs_nil i_beq i_bne x_mkF x_mkI x_tassert x_panic s_pan s_sqp s_bkp s_finp s_fixp s_lpp s_rgp s_retp s_site s_stxN s_stxO x_callT clx El.avs_len s_dyn0 s_rgy barOf dynChk footL dynOK disjK keysOp opVals Op.operands
section
open Ab Go TabE Sp E20 E22 E23
namespace E24
theorem nodeB (key:Key) (st:List El) (hst:st.length ≤ 39) (hne:st.length ≠ 0) (hkey:∃ m,key=(1,49,m) ∨ key=(1,92,m)) (k p:Nat) (hkp:st.length=k + p) (hk:k=st.length)
    (q0 k1:Nat) (f q) (l:List G) (i:Nat) (g:G) (hg:g.ok) (hx:l[i]? = some g) (hi:i < 39) (ha:g.a % 3 ≠ 0) (ll:l.length ≤ 9223372036854775807) (h2:g.a % 3 ≠ 2 ∧ (if (st.length:Int) < g.b % 5 then (st.length:Int) else g.b % 5)=(k:Int)) (dd:Int)
    (T:∀ h,aCall E q0 0 71 [.agg [.int .u8 g.c,.int .u8 1,.int .u32 g.n]] h=some (.ret (.agg [.int .u8 (g.c % 4),.bool true,.int .u32 (tn g.c 1 g.n)]),h))
    (D:∀ h,aCall E q0 0 40 [(nd g (st.drop p)).av] h=some (.ret (.int .i64 dd),h)) :
    ∃ key',(∃ m,key'=(1,49,m) ∨ key'=(1,92,m)) ∧ rndO fn22 b22 q0 k1 (S f (l.map G.av) q key st i)=some (.normal,S f (l.map G.av) q key' (if dd < 15 then st.take p ++ [nd g (st.drop p)] else st) (i + 1)):=by
  have hl:i < l.length:=(List.getElem?_eq_some_iff.1 hx).1
  have ix:=at_ f q l i g hx
  have w:=w64' ((i:Int) + 1) (by omega) (by omega)
  have m2:Int.tmod g.a 3=g.a % 3:=Int.tmod_eq_emod_of_nonneg hg.1.1
  have m3:Int.tmod g.b 5=g.b % 5:=Int.tmod_eq_emod_of_nonneg hg.2.1.1
  have w5:=w64' (g.b % 5) (by omega) (by omega)
  have i39:(i:Int) < 39:=by omega
  have ne:st ≠ []:=fun h => hne (by rw [h]; rfl)
  have cp:st.length * 56 ≤ 70368744177664:=by omega
  obtain rfl:p=0:=by omega
  subst hk
  have w2:IntKind.i64.wrap ((st.length:Int) - (st.length:Int))=0:=by rw [Int.sub_self]; rfl
  have d0:st.drop 0=st:=rfl
  rw [d0] at D ⊢
  have f1:=El.fl_len st
  have f2:=El.fl_keys st
  have f3:(El.fl st).take (st.length * 5)=El.fl st:=by rw [El.fl_take,List.take_length]
  have f4:=El.fl_pure st
  have f6:=El.fl_chunk st
  have ne2:¬ (0=st.length):=fun h => hne h.symm
  have ne3:¬ (st.length ≤ 0):=by omega
  rw [El.av_eq] at D
  simp [El.c,El.k,El.n,El.fb,El.b,El.cb,El.fs,El.s,El.cs,El.avs,bs_nil,ne] at D
  by_cases dp:dd < 15
  · rw [if_pos dp]
    refine ⟨(1,92,if key.2.1=92 then key.2.2 + 1 else 0),⟨_,.inr rfl⟩,?_⟩
    obtain ⟨m,rfl | rfl⟩:=hkey <;> simp [b22,lp,lps,c22,Call.operands,-indexAddrA,ix,w,hl,i39,m2,m3,ha,h2.1,h2.2,w5,T,D,hi,dp,hne,El.avs,El.fl_keysr,El.fl_mem,w2,ne,ne2,ne3,f1,f2,f3,f4,f6,cp,El.fl_mk1]
  · rw [if_neg dp]
    refine ⟨key,hkey,?_⟩
    obtain ⟨m,rfl | rfl⟩:=hkey <;> simp [b22,lp,lps,c22,Call.operands,-indexAddrA,ix,w,hl,i39,m2,m3,ha,h2.1,h2.2,w5,T,D,hi,dp,hne,El.avs,El.fl_keysr,El.fl_mem,w2,ne,ne2,ne3,f1,f2,f3,f4,f6,cp,El.fl_mk1]
theorem nodeC (key:Key) (st:List El) (hst:st.length ≤ 39) (hne:st.length ≠ 0) (hkey:∃ m,key=(1,49,m) ∨ key=(1,92,m)) (k p:Nat) (hkp:st.length=k + p) (hk:k=0)
    (q0 k1:Nat) (f q) (l:List G) (i:Nat) (g:G) (hg:g.ok) (hx:l[i]? = some g) (hi:i < 39) (ha:g.a % 3 ≠ 0) (ll:l.length ≤ 9223372036854775807) (h2:g.a % 3 ≠ 2 ∧ (if (st.length:Int) < g.b % 5 then (st.length:Int) else g.b % 5)=(k:Int)) (dd:Int)
    (T:∀ h,aCall E q0 0 71 [.agg [.int .u8 g.c,.int .u8 1,.int .u32 g.n]] h=some (.ret (.agg [.int .u8 (g.c % 4),.bool true,.int .u32 (tn g.c 1 g.n)]),h))
    (D:∀ h,aCall E q0 0 40 [(nd g (st.drop p)).av] h=some (.ret (.int .i64 dd),h)) :
    ∃ key',(∃ m,key'=(1,49,m) ∨ key'=(1,92,m)) ∧ rndO fn22 b22 q0 k1 (S f (l.map G.av) q key st i)=some (.normal,S f (l.map G.av) q key' (if dd < 15 then st.take p ++ [nd g (st.drop p)] else st) (i + 1)):=by
  have hl:i < l.length:=(List.getElem?_eq_some_iff.1 hx).1
  have ix:=at_ f q l i g hx
  have w:=w64' ((i:Int) + 1) (by omega) (by omega)
  have m2:Int.tmod g.a 3=g.a % 3:=Int.tmod_eq_emod_of_nonneg hg.1.1
  have m3:Int.tmod g.b 5=g.b % 5:=Int.tmod_eq_emod_of_nonneg hg.2.1.1
  have w5:=w64' (g.b % 5) (by omega) (by omega)
  have i39:(i:Int) < 39:=by omega
  have ne:st ≠ []:=fun h => hne (by rw [h]; rfl)
  have cp:st.length * 56 ≤ 70368744177664:=by omega
  obtain rfl:p=st.length:=by omega
  subst hk
  have w2:=w64' (st.length:Int) (by omega) (by omega)
  have d0:st.drop st.length=[]:=List.drop_length
  have d1:st.take st.length=st:=List.take_length
  rw [d0] at D ⊢
  rw [d1]
  have f1:=El.fl_len st
  have f2:=El.fl_keys st
  have f3:(El.fl st).take (st.length * 5)=El.fl st:=by rw [El.fl_take,List.take_length]
  have f4:=El.fl_pure st
  have f6:=El.fl_chunk st
  have cp2:(st.length + 1) * 56 ≤ 70368744177664:=by omega
  have ne2:¬ (0=st.length):=fun h => hne h.symm
  have ne3:¬ (st.length ≤ 0):=by omega
  rw [El.av_eq] at D
  simp [El.c,El.k,El.n,El.fb,El.b,El.cb,El.fs,El.s,El.cs,El.avs,bs_nil] at D
  by_cases dp:dd < 15
  · rw [if_pos dp]
    refine ⟨(1,92,if key.2.1=92 then key.2.2 + 1 else 0),⟨_,.inr rfl⟩,?_⟩
    obtain ⟨m,rfl | rfl⟩:=hkey <;> simp [b22,lp,lps,c22,Call.operands,-indexAddrA,ix,w,hl,i39,m2,m3,ha,h2.1,h2.2,w5,T,D,hi,dp,hne,El.avs,El.fl_keysr,El.fl_mem,w2,ne,ne2,ne3,f1,f2,f3,f4,f6,cp,cp2,El.fl_mkS]
  · rw [if_neg dp]
    refine ⟨key,hkey,?_⟩
    obtain ⟨m,rfl | rfl⟩:=hkey <;> simp [b22,lp,lps,c22,Call.operands,-indexAddrA,ix,w,hl,i39,m2,m3,ha,h2.1,h2.2,w5,T,D,hi,dp,hne,El.avs,El.fl_keysr,El.fl_mem,w2,ne,ne2,ne3,f1,f2,f3,f4,f6,cp,cp2,El.fl_mkS]
end E24
end
end
section
open Ab Go TabE Sp E18 E20 E22 E23
namespace Sp
mutual
theorem chk_of:∀ (c:Cr) (d m l:Int),vld c → d + dep c ≤ 17 → m + cnt c ≤ 8192 → (chk c d m l).1=0
  | .mk c k n b s,d,m,l,hv,hd,hm => by
    unfold vld at hv
    unfold dep at hd
    unfold cnt at hm
    obtain ⟨h1,h2,h3,h4⟩:=hv
    have:=deps_pos s
    have:=cnts_pos s
    unfold chk
    rw [if_neg (by simp [h1]),if_neg (by
      intro h
      rcases h with ⟨a,b⟩ | ⟨a,b⟩
      · exact b (h2 a)
      · exact b (h3 a)),if_neg (by omega),if_neg (by omega)]
    exact chks_of s (d + 1) (m + 1) (max l d) h4 (by omega) (by omega)
theorem chks_of:∀ (s:List Cr) (d m l:Int),vlds s → d + deps s ≤ 17 → m + cnts s ≤ 8192 → (chks s d m l).1=0
  | [],_,_,_,_,_,_ => rfl
  | x :: r,d,m,l,hv,hd,hm => by
    unfold vlds at hv
    unfold deps at hd
    unfold cnts at hm
    have:=deps_pos r
    have:=cnts_pos r
    have a:=chk_of x d m l hv.1 (by omega) (by omega)
    unfold chks
    rw [if_neg (by simp [a])]
    have b:=(chk_dep x d m l a).2.1
    exact chks_of r d _ _ hv.2 (by omega) (by rw [b]; omega)
end
theorem cnts_app (a b:List El):cnts (El.cores (a ++ b))=cnts (El.cores a) + cnts (El.cores b):=by
  induction a with
  | nil => simp [El.cores,cnts]
  | cons x a ih => simp only [List.cons_append,El.cores,cnts,ih]; omega
theorem cnts_len:∀ a:List El,(a.length:Int) ≤ cnts (El.cores a)
  | [] => by simp [El.cores,cnts]
  | x :: a => by
    rw [El.cores,cnts,List.length_cons]
    have:=cnt_pos x.core
    have:=cnts_len a
    omega
theorem deps_le {m:Int} (h0:0 ≤ m):∀ a:List El,(∀ x ∈ a,dep x.core ≤ m) → deps (El.cores a) ≤ m
  | [],_ => by simp [El.cores,deps]; exact h0
  | x :: a,h => by
    rw [El.cores,deps]
    have:=h x (List.mem_cons_self ..)
    have:=deps_le h0 a fun y hy => h y (List.mem_cons_of_mem _ hy)
    omega
end Sp
namespace E26
def nx (st:List El) (g:G):List El:=if g.a % 3=0 then st ++ [leaf g] else if dep (nd g (st.drop (st.length - kk g st.length))).core < 15 then st.take (st.length - kk g st.length) ++ [nd g (st.drop (st.length - kk g st.length))] else st
def sq (l:List G):Nat → List El
  | 0 => []
  | i + 1 => match l[i]? with
    | some g => nx (sq l i) g
    | none => sq l i
structure W (x:El):Prop where
  ok:x.ok
  vld:vld x.core
  dep:dep x.core ≤ 14
  fw:Fw 20 x
theorem kk_le (g:G) (n:Nat):kk g n ≤ n:=by unfold kk; split <;> omega
theorem leaf_dep (g:G):dep (leaf g).core=1:=rfl
theorem leaf_W (g:G) (hg:g.ok):W (leaf g):=by
  obtain ⟨h1,h2,h3,h4,h5,h6,h7⟩:=hg
  have t:=tn_b g.c 0 g.n h5.1
  refine ⟨(El.ok_eq _).2 ⟨by simp only [leaf,El.c]; omega,by simp only [leaf,El.n]; omega,fun x hx => h6 x (List.mem_of_mem_take hx),by simp only [leaf,El.b,List.length_take]; omega,by simp [leaf,El.s],fun x hx => by cases hx⟩,?_,by rw [leaf_dep]; omega,.mk _ (by simp only [leaf,El.b,List.length_take]; omega) fun x hx => by cases hx⟩
  rw [vld_eq]
  have q:=tn_ok g.c 0 g.n h3.1 h5.1
  refine ⟨by simpa [leaf,El.c,El.k,El.n] using q,fun h => (by cases h),fun _ => rfl,trivial⟩
theorem nd_W (g:G) (hg:g.ok) (d:List El) (hd:∀ x ∈ d,W x) (hl:d.length ≤ 1000):(nd g d).ok ∧ vld (nd g d).core ∧ Fw 20 (nd g d) ∧ dep (nd g d).core ≤ 15 ∧ cnt (nd g d).core=1 + cnts (El.cores d):=by
  obtain ⟨h1,h2,h3,h4,h5,h6,h7⟩:=hg
  have t:=tn_b g.c 1 g.n h5.1
  refine ⟨(El.ok_eq _).2 ⟨by simp only [El.c]; omega,by simp only [El.n]; omega,isB_nil,by simp [El.b],by simp only [El.s]; omega,fun x hx => (hd x hx).ok⟩,?_,.mk _ (by simp [El.b]) fun x hx => (hd x hx).fw,?_,by rw [cnt_eq]; rfl⟩
  · rw [vld_eq]
    have q:=tn_ok g.c 1 g.n h3.1 h5.1
    exact ⟨by simpa [El.c,El.k,El.n] using q,fun _ => rfl,fun h => (by cases h),vlds_all.2 fun x hx => (hd x hx).vld⟩
  · rw [dep_eq]
    have:=deps_le (m:=14) (by omega) d fun x hx => (hd x hx).dep
    show deps (El.cores d) + 1 ≤ 15
    omega
theorem inv (l:List G) (hl:∀ g ∈ l,g.ok):∀ i,i ≤ 1000 → cnts (El.cores (sq l i)) ≤ i ∧ ∀ x ∈ sq l i,W x
  | 0,_ => ⟨by simp [sq,El.cores,cnts],fun x h => by simp [sq] at h⟩
  | i + 1,hi => by
    obtain ⟨h1,h2⟩:=inv l hl i (by omega)
    unfold sq
    cases hg:l[i]? with
    | none => exact ⟨by simp only []; omega,h2⟩
    | some g =>
      have og:=hl g (List.mem_of_getElem? hg)
      simp only []
      unfold nx
      by_cases ha:g.a % 3=0
      · rw [if_pos ha]
        refine ⟨?_,fun x hx => ?_⟩
        · rw [cnts_app]
          have:cnts (El.cores [leaf g])=1:=rfl
          omega
        · rcases List.mem_append.1 hx with h | h
          · exact h2 x h
          · obtain rfl:=List.mem_singleton.1 h
            exact leaf_W g og
      · rw [if_neg ha]
        generalize hp:(sq l i).length - kk g (sq l i).length=p
        have ln:=cnts_len (sq l i)
        have hw:=nd_W g og ((sq l i).drop p) (fun x hx => h2 x (List.mem_of_mem_drop hx)) (by rw [List.length_drop]; omega)
        by_cases hd:dep (nd g ((sq l i).drop p)).core < 15
        · rw [if_pos hd]
          have sp:cnts (El.cores (sq l i))=cnts (El.cores ((sq l i).take p)) + cnts (El.cores ((sq l i).drop p)):=by rw [← cnts_app,List.take_append_drop]
          refine ⟨?_,fun x hx => ?_⟩
          · rw [cnts_app]
            have:cnts (El.cores [nd g ((sq l i).drop p)])=1 + cnts (El.cores ((sq l i).drop p)):=by rw [El.cores,cnts,hw.2.2.2.2]; simp [El.cores,cnts]
            omega
          · rcases List.mem_append.1 hx with h | h
            · exact h2 x (List.mem_of_mem_take h)
            · obtain rfl:=List.mem_singleton.1 h
              exact ⟨hw.1,hw.2.1,by omega,hw.2.2.1⟩
        · rw [if_neg hd]
          exact ⟨by omega,h2⟩
theorem sq_ne (l:List G):∀ i,i < l.length → (sq l (i + 1)).length ≠ 0
  | i,hi => by
    have hg:l[i]? = some l[i]:=List.getElem?_eq_getElem hi
    unfold sq
    rw [hg]
    simp only []
    unfold nx
    split
    · simp
    split
    · simp
    · rename_i h
      cases i with
      | zero => exact absurd (by rw [dep_eq]; simp [sq,El.s,El.cores,deps]) h
      | succ i => exact sq_ne l i (by omega)
def top (st:List El):El:=match st with
  | [x] => x
  | _ => .mk 0 true 16 true [] (some 0) (decide (st=[])) st (if st=[] then some 0 else none)
def ofE (l:List G):El:=top (sq l (min 39 l.length))
structure Good (x:El):Prop where
  ok:x.ok
  vld:vld x.core
  dep:dep x.core ≤ 15
  fw:Fw 20 x
  cnt:cnt x.core ≤ 40
theorem good (l:List G) (hl:∀ g ∈ l,g.ok):Good (ofE l):=by
  obtain ⟨h1,h2⟩:=inv l hl (min 39 l.length) (by omega)
  have ln:=cnts_len (sq l (min 39 l.length))
  unfold ofE
  generalize sq l (min 39 l.length)=st at h1 h2 ln
  unfold top
  split
  · rename_i x
    have w:=h2 x (by simp)
    exact ⟨w.ok,w.vld,by have:=w.dep; omega,w.fw,by simp [El.cores,cnts] at h1; omega⟩
  · refine ⟨(El.ok_eq _).2 ⟨by simp [El.c],by simp [El.n],isB_nil,by simp [El.b],by simp only [El.s]; omega,fun x hx => (h2 x hx).ok⟩,?_,?_,.mk _ (by simp [El.b]) fun x hx => (h2 x hx).fw,?_⟩
    · rw [vld_eq]
      exact ⟨rfl,fun _ => rfl,fun h => (by cases h),vlds_all.2 fun x hx => (h2 x hx).vld⟩
    · rw [dep_eq]
      have:=deps_le (m:=14) (by omega) st fun x hx => (h2 x hx).dep
      show deps (El.cores st) + 1 ≤ 15
      omega
    · rw [cnt_eq]
      show 1 + cnts (El.cores st) ≤ 40
      omega
theorem Good.chk {x:El} (h:Good x):(chk x.core 1 0 0).1=0:=chk_of _ _ _ _ h.vld (by have:=h.dep; omega) (by have:=h.cnt; omega)
theorem Good.sm {x:El} (h:Good x):x.sm:=fw_sm (by omega) x h.fw (by have:=h.cnt; omega)
theorem Good.len {x:El} (h:Good x):(enc x.core).length ≤ 1160:=by
  have:=fw_len x h.fw
  have:=h.cnt
  omega
end E26
end
section
open Ab Go TabE
attribute [local simp ↓] s_seq s_reg s_regd s_cond s_block s_cons s_consG
attribute [local simp] s_nil s_loop s_round s_lpn s_lpe s_lpr firstReg s_gt s_gf s_wb s_wu s_val s_valN s_skip s_calls s_callP s_cax lookR flatR pureKs s_ret s_rgx s_sqn s_sqr s_sqe s_cdb s_bkn s_bkr s_bke s_exit s_ret' s_skip' s_finr s_finn s_fin1 s_fix s_clean s_gc0 o_tmp o_int o_bool o_nil o_str o_fn o_nil' l_hit l_miss l_nil ol_nil ol_cons ol_some x_move x_assign x_pick pk_t pk_f x_bin bn_s x_un x_extract x_callF cl_no x_callB x_callBF frzV x_conv cvx convA frame0 binA intOp resL resA results1 sealLW AV.pure AV.pureL keepT x_alloc x_box bxx x_build bdx x_buildSlice bsx x_buildSliceF bsf x_load ldx x_store stx x_slice slx x_fieldAddr x_field x_index ixx x_indexAddr iax x_makeSlice msx x_makeSliceF msf x_nilCheck newK genOf setK lookK fillA writeL writeC readC conts TyI.mk1 sliceA boundsA boundsB fitsA numA indexAddrA fieldAddrA partA fieldA indexA appendA copyA builtinA AV.cells chunk gcH reach keysT keepK inKs AV.keys AV.keysL Ty.isAgg eq1 eqL convA.go ltI w_u8 w_u32 w_u64 w_i64 w_fdiv w_tdiv w_tmod IntKind.bits unA sc_int sc_bool sc_str sc_sl sc_ref sc_ptr sc_pel sc_nilp sc_fn sc_nilf sc_if sc_nili sc_agg sc_tup sc_mem bs_pure bs_kl bs_length bs_cells bs_all sl_row sealRow sealY sl_int sl_bool sl_str sl_sl sl_nilp sl_nilf sl_nili sl_pel sl_agg sl_tup sl_fn sl_if nat_1 bs_cons bs_nil i_beq i_bne x_mkF x_mkI x_tassert x_panic s_pan s_sqp s_bkp s_finp s_fixp s_lpp s_rgp s_retp s_site s_stxN s_stxO x_callT clx El.avs_len
section
open Ab Go TabE Sp
namespace E31
inductive Nn:El → Prop
  | mk (e:El):(e.fb=true → e.b=[]) → (e.fs=true → e.s=[]) → (∀ x ∈ e.s,Nn x) → Nn e
end E31
end
end
section
open Ab Go TabE
attribute [local simp ↓] s_seq s_reg s_regd s_cond s_block s_cons s_consG s_regD
attribute [local simp] s_nil s_loop s_round s_lpn s_lpe s_lpr firstReg s_gt s_gf s_wb s_wu s_val s_valN s_skip s_calls s_callP s_cax lookR flatR pureKs s_ret s_rgx s_sqn s_sqr s_sqe s_cdb s_bkn s_bkr s_bke s_exit s_ret' s_skip' s_finr s_finn s_fin1 s_fix s_clean s_gc0 o_tmp o_int o_bool o_nil o_str o_fn o_nil' l_hit l_miss l_nil ol_nil ol_cons ol_some x_move x_assign x_pick pk_t pk_f x_bin bn_s x_un x_extract x_callF cl_no x_callB x_callBF frzV x_conv cvx convA frame0 binA intOp resL resA results1 sealLW AV.pure AV.pureL keepT x_alloc x_box bxx x_build bdx x_buildSlice bsx x_buildSliceF bsf x_load ldx x_store stx x_slice slx x_fieldAddr x_field x_index ixx x_indexAddr iax x_makeSlice msx x_makeSliceF msf x_nilCheck newK genOf setK lookK fillA writeL writeC readC conts TyI.mk1 sliceA boundsA boundsB fitsA numA indexAddrA fieldAddrA partA fieldA indexA appendA copyA builtinA AV.cells chunk gcH reach keysT keepK inKs AV.keys AV.keysL Ty.isAgg eq1 eqL convA.go ltI w_u8 w_u32 w_u64 w_i64 w_fdiv w_tdiv w_tmod IntKind.bits unA sc_int sc_bool sc_str sc_sl sc_ref sc_ptr sc_pel sc_nilp sc_fn sc_nilf sc_if sc_nili sc_agg sc_tup sc_mem bs_pure bs_kl bs_length bs_cells bs_all sl_row sealRow sealY sl_int sl_bool sl_str sl_sl sl_nilp sl_nilf sl_nili sl_pel sl_agg sl_tup sl_fn sl_if nat_1 bs_cons bs_nil i_beq i_bne x_mkF x_mkI x_tassert x_panic s_pan s_sqp s_bkp s_finp s_fixp s_lpp s_rgp s_retp s_site s_stxN s_stxO x_callT clx El.avs_len s_dyn0 s_rgy barOf dynChk footL dynOK disjK keysOp opVals Op.operands
section
open Ab Go TabE Sp E31
namespace E32
theorem fl_set (r:List El) (i:Nat) (y:El) (h:i < r.length):El.fl (r.set i y)=El.fl (r.take i) ++ .int .u8 y.c :: .bool y.k :: .int .u32 y.n :: .sl y.fb (bs y.b) y.cb :: .sl y.fs (El.avs y.s) y.cs :: El.fl (r.drop (i + 1)):=by
  rw [List.set_eq_take_append_cons_drop,if_pos h,El.fl_app]
  rfl
abbrev z0:El:=.mk 0 false 0 true [] (some 0) true [] (some 0)
theorem fl_rep:∀ n,(List.replicate n [AV.int .u8 0,.bool false,.int .u32 0,.sl true [] (some 0),.sl true [] (some 0)]).flatten=El.fl (List.replicate n z0)
  | 0 => rfl
  | n + 1 => by rw [List.replicate_succ,List.replicate_succ,List.flatten_cons,fl_rep n]; rfl
theorem sealX_fl (n:Nat) (h:Heap) (key:Key) (st:List El) (cap:Option Nat) (mt ex:Bool) (hk:lookK h key=some ⟨El.fl st,true,mt,ex,5,true⟩):sealX (n + 2) h (.ref key 0 st.length cap)=some (.sl false (El.avs st) cap,setK h key ⟨El.fl st,true,false,ex,5,true⟩):=by
  unfold sealX sealA
  have hp:(AV.ref key 0 st.length cap).pure=false:=rfl
  have f3:(El.fl st).take (st.length * 5)=El.fl st:=by rw [El.fl_take,List.take_length]
  simp only [hp,Bool.false_eq_true,if_false,hk]
  rw [if_pos ⟨trivial,by rw [El.fl_len]; omega,by simp⟩]
  simp only [List.drop_zero,f3]
  rw [sealL_of_pure n _ _ (El.fl_pure st)]
  simp only [El.fl_chunk]
end E32
end
section
open Ab Go TabE Sp E31 E32
namespace E33
inductive Sh:El → Prop
  | mk (e:El):e.b.length ≤ 1000000 → e.s.length ≤ 1000000 → (∀ x ∈ e.s,Sh x) → Sh e
end E33
end
end
section
open Ab Go TabE
attribute [local simp ↓] s_seq s_reg s_regd s_cond s_block s_cons s_consG
attribute [local simp] s_nil s_loop s_round s_lpn s_lpe s_lpr firstReg s_gt s_gf s_wb s_wu s_val s_valN s_skip s_calls s_callP s_cax lookR flatR pureKs s_ret s_rgx s_sqn s_sqr s_sqe s_cdb s_bkn s_bkr s_bke s_exit s_ret' s_skip' s_finr s_finn s_fin1 s_fix s_clean s_gc0 o_tmp o_int o_bool o_nil o_str o_fn o_nil' l_hit l_miss l_nil ol_nil ol_cons ol_some x_move x_assign x_pick pk_t pk_f x_bin bn_s x_un x_extract x_callF cl_no x_callB x_callBF frzV x_conv cvx convA frame0 binA intOp resL resA results1 sealLW AV.pure AV.pureL keepT x_alloc x_box bxx x_build bdx x_buildSlice bsx x_buildSliceF bsf x_load ldx x_store stx x_slice slx x_fieldAddr x_field x_index ixx x_indexAddr iax x_makeSlice msx x_makeSliceF msf x_nilCheck newK genOf setK lookK fillA writeL writeC readC conts TyI.mk1 sliceA boundsA boundsB fitsA numA indexAddrA fieldAddrA partA fieldA indexA appendA copyA builtinA AV.cells chunk gcH reach keysT keepK inKs AV.keys AV.keysL Ty.isAgg eq1 eqL convA.go ltI w_u8 w_u32 w_u64 w_i64 w_fdiv w_tdiv w_tmod IntKind.bits unA sc_int sc_bool sc_str sc_sl sc_ref sc_ptr sc_pel sc_nilp sc_fn sc_nilf sc_if sc_nili sc_agg sc_tup sc_mem bs_pure bs_kl bs_length bs_cells bs_all sl_row sealRow sealY sl_int sl_bool sl_str sl_sl sl_nilp sl_nilf sl_nili sl_pel sl_agg sl_tup sl_fn sl_if nat_1 bs_cons bs_nil i_beq i_bne x_mkF x_mkI x_tassert x_panic s_pan s_sqp s_bkp s_finp s_fixp s_lpp s_rgp s_retp s_site s_stxN s_stxO x_callT clx El.avs_len
section
open Ab Go TabE Sp E31 E32 E33
namespace E34
abbrev ns (ps:List Int):List AV:=ps.map (AV.int .i64)
theorem int_at (f c) (ps:List Int) (i:Nat) (p:Int) (h:ps[i]? = some p):∀ hp,indexAddrA E 47 (.sl f (ns ps) c) (.int .i64 i) hp=some (.pel [.int .i64 p]):=by
  intro hp
  have hi:i < ps.length:=(List.getElem?_eq_some_iff.1 h).1
  unfold indexAddrA
  simp only [E_ty47,E_ty3]
  rw [if_pos ⟨by omega,by rw [List.length_map]; omega⟩]
  simp only [Int.toNat_natCast,ns,List.getElem?_map,h,Option.map_some]
  rfl
def walk:El → List Int → Option El
  | e,[] => some e
  | e,p :: r => if p < 0 then none else match e.s[p.toNat]? with
    | some x => walk x r
    | none => none
theorem walk_P {P:El → Prop} (hP:∀ e,P e → ∀ x ∈ e.s,P x):∀ (ps:List Int) (e x:El),P e → walk e ps=some x → P x
  | [],e,x,h,hw => by cases hw; exact h
  | p :: r,e,x,h,hw => by
    unfold walk at hw
    split at hw
    · cases hw
    · split at hw
      · rename_i y hy
        exact walk_P hP r y x (hP e h y (List.mem_of_getElem? hy)) hw
      · cases hw
def b25:Code:=lp c25 0
abbrev S (f:Bool) (ps:List Int) (c:Option Nat) (i:Nat) (x:El):St:=⟨[(2,.ptr (1,2,0) 0),(4,.ptr (1,4,0) 0),(15,.sl f (ns ps) c),(16,.int .i64 (ps.length:Int)),(17,.int .i64 (i:Int))],[((1,2,0),bx (ec x)),((1,4,0),bx [.int .u8 0,.bool false,.int .u32 0,.sl true [] (some 0),.sl true [] (some 0)])]⟩
abbrev Bad:AExit × St:=(.ret,⟨[(4,.ptr (1,4,0) 0),(5,.int .i64 19)],[((1,4,0),bx [.int .u8 0,.bool false,.int .u32 0,.sl true [] (some 0),.sl true [] (some 0)])]⟩)
theorem last (q k1:Nat) (f ps c) (e:El):rnd fn25 b25 q k1 (S f ps c ps.length e)=some (.exit 0,⟨[(2,.ptr (1,2,0) 0),(4,.ptr (1,4,0) 0),(15,.sl f (ns ps) c),(16,.int .i64 (ps.length:Int)),(17,.int .i64 (ps.length:Int)),(18,.bool false)],[((1,2,0),bx (ec e)),((1,4,0),bx [.int .u8 0,.bool false,.int .u32 0,.sl true [] (some 0),.sl true [] (some 0)])]⟩):=by
  simp [b25,lp,lps,c25]
end E34
end
end
section
open Ab Go TabE
attribute [local simp ↓] s_seq s_reg s_regd s_cond s_block s_cons s_consG s_regD
attribute [local simp] s_nil s_loop s_round s_lpn s_lpe s_lpr firstReg s_gt s_gf s_wb s_wu s_val s_valN s_skip s_calls s_callP s_cax lookR flatR pureKs s_ret s_rgx s_sqn s_sqr s_sqe s_cdb s_bkn s_bkr s_bke s_exit s_ret' s_skip' s_finr s_finn s_fin1 s_fix s_clean s_gc0 o_tmp o_int o_bool o_nil o_str o_fn o_nil' l_hit l_miss l_nil ol_nil ol_cons ol_some x_move x_assign x_pick pk_t pk_f x_bin bn_s x_un x_extract x_callF cl_no x_callB x_callBF frzV x_conv cvx convA frame0 binA intOp resL resA results1 sealLW AV.pure AV.pureL keepT x_alloc x_box bxx x_build bdx x_buildSlice bsx x_buildSliceF bsf x_load ldx x_store stx x_slice slx x_fieldAddr x_field x_index ixx x_indexAddr iax x_makeSlice msx x_makeSliceF msf x_nilCheck newK genOf setK lookK fillA writeL writeC readC conts TyI.mk1 sliceA boundsA boundsB fitsA numA indexAddrA fieldAddrA partA fieldA indexA appendA copyA builtinA AV.cells chunk gcH reach keysT keepK inKs AV.keys AV.keysL Ty.isAgg eq1 eqL convA.go ltI w_u8 w_u32 w_u64 w_i64 w_fdiv w_tdiv w_tmod IntKind.bits unA sc_int sc_bool sc_str sc_sl sc_ref sc_ptr sc_pel sc_nilp sc_fn sc_nilf sc_if sc_nili sc_agg sc_tup sc_mem bs_pure bs_kl bs_length bs_cells bs_all sl_row sealRow sealY sl_int sl_bool sl_str sl_sl sl_nilp sl_nilf sl_nili sl_pel sl_agg sl_tup sl_fn sl_if nat_1 bs_cons bs_nil i_beq i_bne x_mkF x_mkI x_tassert x_panic s_pan s_sqp s_bkp s_finp s_fixp s_lpp s_rgp s_retp s_site s_stxN s_stxO x_callT clx El.avs_len s_dyn0 s_rgy barOf dynChk footL dynOK disjK keysOp opVals Op.operands
section
open Ab Go TabE Sp E34
namespace F1
def tg (x:Int):Int × Bool × Int:=if x % 8=0 then (0,true,16) else if x % 8=1 then (0,true,17) else if x % 8=2 then (2,true,x / 8 % 4 * 12) else if x % 8=3 then (2,false,x / 8 % 4) else if x % 8=4 then (0,false,1) else if x % 8=5 then (0,false,4) else (0,false,2)
theorem tag (x:Int) (h0:0 ≤ x) (h1:x < 256):Con E 10 44 [.int .u8 x] (.agg [.int .u8 (tg x).1,.bool (tg x).2.1,.int .u32 (tg x).2.2]):=by
  refine con_of E_fn44 rfl (Nat.le_of_ble_eq_true rfl) rfl rfl (g:=[]) ?_
  rw [body_44,c44]
  have t1:Int.tmod x 8=x % 8:=Int.tmod_eq_emod_of_nonneg h0
  have t2:Int.tdiv x 8=x / 8:=Int.tdiv_eq_ediv_of_nonneg h0
  have t3:Int.tmod (x / 8) 4=x / 8 % 4:=Int.tmod_eq_emod_of_nonneg (by omega)
  have w1:(x / 8) % 256=x / 8:=Int.emod_eq_of_lt (by omega) (by omega)
  have w2:(x / 8 % 4) % 4294967296=x / 8 % 4:=Int.emod_eq_of_lt (by omega) (by omega)
  have w3:(x / 8 % 4 * 12) % 4294967296=x / 8 % 4 * 12:=Int.emod_eq_of_lt (by omega) (by omega)
  have m:x % 8=0 ∨ x % 8=1 ∨ x % 8=2 ∨ x % 8=3 ∨ x % 8=4 ∨ x % 8=5 ∨ x % 8=6 ∨ x % 8=7:=by omega
  unfold tg
  rcases m with m | m | m | m | m | m | m | m <;> simp [m,t1,t2,t3,w1,w2,w3]
theorem ns_len (ps:List Int):(ns ps).length=ps.length:=List.length_map ..
theorem ns_pure:∀ ps:List Int,AV.pureL (ns ps)=true
  | [] => rfl
  | p :: r => by have:=ns_pure r; simpa [ns,AV.pureL,AV.pure] using this
theorem ns_keys (ps):AV.keysL (ns ps)=[]:=AV.keysL_pure _ (ns_pure ps)
theorem ns_scal:∀ ps:List Int,(ns ps).all AV.scal=true
  | [] => rfl
  | p :: r => by have:=ns_scal r; simp [ns,AV.scal]
theorem ns_app (a b):ns (a ++ b)=ns a ++ ns b:=List.map_append ..
def b47:Code:=lp c47 0
abbrev S47 (f g:Bool) (c d:Option Nat) (p:List Int) (i:Nat):St:=⟨[(0,.sl f (ns p) c),(1,.sl g (ns p) d),(5,.int .i64 (i:Int))],[]⟩
theorem go47 (q k1:Nat) (f g c d) (p:List Int) (i:Nat) (x:Int) (hx:p[i]? = some x) (hl:p.length ≤ 100000000):rnd fn47 b47 q k1 (S47 f g c d p i)=some (.normal,S47 f g c d p (i + 1)):=by
  have hi:i < p.length:=(List.getElem?_eq_some_iff.1 hx).1
  have ix:=int_at f c p i x hx
  have iy:=int_at g d p i x hx
  have w:=w64' ((i:Int) + 1) (by omega) (by omega)
  simp [b47,lp,lps,c47,-indexAddrA,ix,iy,w,hi]
theorem last47 (q k1:Nat) (f g c d) (p:List Int):rnd fn47 b47 q k1 (S47 f g c d p p.length)=some (.exit 0,⟨[(0,.sl f (ns p) c),(1,.sl g (ns p) d),(5,.int .i64 (p.length:Int)),(14,.bool false)],[]⟩):=by
  simp [b47,lp,lps,c47]
theorem ints (f g c d) (p:List Int) (hl:p.length ≤ 100000000):Con E (p.length + 20) 47 [.sl f (ns p) c,.sl g (ns p) d] (.int .i64 1):=by
  obtain ⟨K,hK⟩:∃ K,p.length + 19=K:=⟨_,rfl⟩
  have eK:p.length + 20=K + 1:=by omega
  rw [eK]
  have L:=loopQ (fn:=fn47) (b:=b47) (K:=K) (k:=K) (fun i => S47 f g c d p i) p.length rfl (fun i hi => by
    obtain ⟨x,hx⟩:∃ x,p[i]? = some x:=⟨p[i],by simp⟩
    exact go47 K K f g c d p i x hx hl) (last47 K K f g c d p) (by simp) (by omega)
  refine con_of E_fn47 (by simp [AV.pureL,AV.pure]) (Nat.le_of_ble_eq_true rfl) rfl rfl (g:=[]) ?_
  rw [body_47,c47]
  simp [b47,lp,lps,c47,firstReg,S47] at L
  simp [-s_round,L]
def b48:Code:=lp c48 0
abbrev S48 (f g:Bool) (d:Option Nat) (p:List Int) (e:Int) (i:Nat):St:=⟨[(2,.ptr (1,2,0) 0),(3,.ptr (1,3,0) 0),(5,.int .i64 (i:Int))],[((1,2,0),bx [.sl f (ns p) (some p.length),.int .i64 e]),((1,3,0),bx [.sl g (ns p) d,.int .i64 e])]⟩
theorem go48 (q k1:Nat) (f g d) (p:List Int) (e:Int) (i:Nat) (x:Int) (hx:p[i]? = some x) (hl:p.length ≤ 100000000):rnd fn48 b48 q k1 (S48 f g d p e i)=some (.normal,S48 f g d p e (i + 1)):=by
  have hi:i < p.length:=(List.getElem?_eq_some_iff.1 hx).1
  have ix:=int_at f (some p.length) p i x hx
  have iy:=int_at g d p i x hx
  have w:=w64' ((i:Int) + 1) (by omega) (by omega)
  simp [b48,lp,lps,c48,-indexAddrA,ix,iy,w,hi]
theorem last48 (q k1:Nat) (f g d) (p:List Int) (e:Int):rnd fn48 b48 q k1 (S48 f g d p e p.length)=some (.exit 0,⟨[(2,.ptr (1,2,0) 0),(3,.ptr (1,3,0) 0),(5,.int .i64 (p.length:Int)),(33,.bool false)],(S48 f g d p e p.length).h⟩):=by
  simp [b48,lp,lps,c48]
theorem fault (f g d) (p:List Int) (e:Int) (hl:p.length ≤ 100000000):Con E (p.length + 20) 48 [.agg [.sl f (ns p) (some p.length),.int .i64 e],.agg [.sl g (ns p) d,.int .i64 e]] (.int .i64 1):=by
  obtain ⟨K,hK⟩:∃ K,p.length + 19=K:=⟨_,rfl⟩
  have eK:p.length + 20=K + 1:=by omega
  rw [eK]
  have L:=loopQ (fn:=fn48) (b:=b48) (K:=K) (k:=K) (fun i => S48 f g d p e i) p.length rfl (fun i hi => by
    obtain ⟨x,hx⟩:∃ x,p[i]? = some x:=⟨p[i],by simp⟩
    exact go48 K K f g d p e i x hx hl) (last48 K K f g d p e) (by simp) (by omega)
  refine con_of E_fn48 (by simp [AV.pureL,AV.pure]) (Nat.le_of_ble_eq_true rfl) rfl rfl (g:=[]) ?_
  rw [body_48,c48]
  simp [b48,lp,lps,c48,firstReg,S48,bx] at L
  simp [-s_round,L]
def b49:Code:=lp c49 0
abbrev S49 (a b:El) (i:Nat):St:=⟨[(2,.ptr (1,2,0) 0),(3,.ptr (1,3,0) 0),(5,.int .i64 (i:Int))],[((1,2,0),bx (ec a)),((1,3,0),bx (ec b))]⟩
theorem go49 (q k1:Nat) (a b x y:El) (i:Nat) (hx:a.s[i]? = some x) (hy:b.s[i]? = some y) (le:a.s.length ≤ 9223372036854775807) (B:∀ h,aCall E q 0 49 [x.av,y.av] h=some (.ret (.int .i64 1),h)) :
    rnd fn49 b49 q k1 (S49 a b i)=some (.normal,S49 a b (i + 1)):=by
  have hi:i < a.s.length:=(List.getElem?_eq_some_iff.1 hx).1
  have ix:=fun hp => El.at_ a.fs a.cs a.s i x hx hp
  have iy:=fun hp => El.at_ b.fs b.cs b.s i y hy hp
  have w:=w64' ((i:Int) + 1) (by omega) (by omega)
  rw [El.av_eq,El.av_eq] at B
  simp [b49,lp,lps,c49,-indexAddrA,ix,iy,w,B,hi]
theorem last49 (q k1:Nat) (a b:El):rnd fn49 b49 q k1 (S49 a b a.s.length)=some (.exit 0,⟨[(2,.ptr (1,2,0) 0),(3,.ptr (1,3,0) 0),(5,.int .i64 (a.s.length:Int)),(33,.bool false)],(S49 a b a.s.length).h⟩):=by
  simp [b49,lp,lps,c49]
theorem same:∀ a:El,∀ b:El,a.ok → a.core=b.core → ∃ N,Con E N 49 [a.av,b.av] (.int .i64 1):=by
  refine El.ind fun a ih b ha hc => ?_
  obtain ⟨e1,e2,e3,e4,e5⟩:=El.core_inj.1 hc
  have ll:=El.cores_len e5
  obtain ⟨N,hN⟩:=unif (P:=fun (i n:Nat) => ∀ x y:El,a.s[i]? = some x → b.s[i]? = some y → Con E n 49 [x.av,y.av] (.int .i64 1)) (fun i n m h hm x y hx hy k hk => h x y hx hy k (Nat.le_trans hm hk)) (List.range a.s.length) (fun i hi => by
    have hi':i < a.s.length:=List.mem_range.1 hi
    obtain ⟨x,hx⟩:∃ x,a.s[i]? = some x:=⟨a.s[i],by simp⟩
    obtain ⟨y,hy⟩:∃ y,b.s[i]? = some y:=⟨b.s[i]'(by omega),List.getElem?_eq_getElem _⟩
    have mx:=List.mem_of_getElem? hx
    obtain ⟨n,hn⟩:=ih x mx y (ha.sub x mx) (El.cores_get e5 hx hy)
    exact ⟨n,fun x' y' hx' hy' => by rw [hx] at hx'; rw [hy] at hy'; cases hx'; cases hy'; exact hn⟩)
  obtain ⟨K,hK⟩:∃ K,N + a.s.length + 10=K:=⟨_,rfl⟩
  refine ⟨K + 1,con_of E_fn49 (by simp [AV.pureL,El.av_pure]) (Nat.le_of_ble_eq_true rfl) rfl rfl (g:=[]) ?_⟩
  rw [body_49,c49]
  have L:=loopQ (fn:=fn49) (b:=b49) (K:=K) (k:=K) (fun i => S49 a b i) a.s.length rfl (fun i hi => by
    obtain ⟨x,hx⟩:∃ x,a.s[i]? = some x:=⟨a.s[i],by simp⟩
    obtain ⟨y,hy⟩:∃ y,b.s[i]? = some y:=⟨b.s[i]'(by omega),List.getElem?_eq_getElem _⟩
    exact go49 K K a b x y i hx hy ha.sl fun h => hN i (List.mem_range.2 hi) x y hx hy K (by omega) 0 h) (last49 K K a b) (by simp) (by omega)
  simp [b49,lp,lps,c49,firstReg,S49,bx,ec,← e1,← e2,← e3,← e4] at L
  have ga:=bs_go ha.bb
  simp [El.av_eq,-s_round,← e1,← e2,← e3,← e4,← ll,ga,L,fitZ]
end F1
end
end
section
open Ab Go TabE Sp E18 E20 E22 E23 E26 E31 E33
namespace E36
theorem cnts_mem {x:El}:∀ {l:List El},x ∈ l → cnt x.core ≤ cnts (El.cores l)
  | y :: r,h => by
    rw [El.cores,cnts]
    have:=cnt_pos y.core
    have:=cnts_pos (El.cores r)
    rcases List.mem_cons.1 h with rfl | h
    · omega
    · have:=cnts_mem h; omega
end E36
end
section
open Ab Go TabE
set_option maxRecDepth 100000
namespace LV
theorem l04:Con E 200 18 [] (.bool true):=by
  obtain ⟨g,h⟩:=isT_some (show isT (aCall E 200 0 18 [] [])=true by kernel_rfl)
  exact .of (g:=g) rfl h
end LV
end
section
open Ab Go TabE
attribute [local simp ↓] s_seq s_reg s_regd s_cond s_block s_cons s_consG
attribute [local simp] s_nil s_loop s_round s_lpn s_lpe s_lpr firstReg s_gt s_gf s_wb s_wu s_val s_valN s_skip s_calls s_callP s_cax lookR flatR pureKs s_ret s_rgx s_sqn s_sqr s_sqe s_cdb s_bkn s_bkr s_bke s_exit s_ret' s_skip' s_finr s_finn s_fin1 s_fix s_clean s_gc0 o_tmp o_int o_bool o_nil o_str o_fn o_nil' l_hit l_miss l_nil ol_nil ol_cons ol_some x_move x_assign x_pick pk_t pk_f x_bin bn_s x_un x_extract x_callF cl_no x_callB x_callBF frzV x_conv cvx convA frame0 binA intOp resL resA results1 sealLW AV.pure AV.pureL keepT x_alloc x_box bxx x_build bdx x_buildSlice bsx x_buildSliceF bsf x_load ldx x_store stx x_slice slx x_fieldAddr x_field x_index ixx x_indexAddr iax x_makeSlice msx x_makeSliceF msf x_nilCheck newK genOf setK lookK fillA writeL writeC readC conts TyI.mk1 sliceA boundsA boundsB fitsA numA indexAddrA fieldAddrA partA fieldA indexA appendA copyA builtinA AV.cells chunk gcH reach keysT keepK inKs AV.keys AV.keysL Ty.isAgg eq1 eqL convA.go ltI w_u8 w_u32 w_u64 w_i64 w_fdiv w_tdiv w_tmod IntKind.bits unA sc_int sc_bool sc_str sc_sl sc_ref sc_ptr sc_pel sc_nilp sc_fn sc_nilf sc_if sc_nili sc_agg sc_tup sc_mem bs_pure bs_kl bs_length bs_cells bs_all sl_row sealRow sealY sl_int sl_bool sl_str sl_sl sl_nilp sl_nilf sl_nili sl_pel sl_agg sl_tup sl_fn sl_if nat_1 bs_cons bs_nil i_beq i_bne x_mkF x_mkI x_tassert x_panic s_pan s_sqp s_bkp s_finp s_fixp s_lpp s_rgp s_retp s_site s_stxN s_stxO x_callT clx El.avs_len
section
open Ab Go TabE Sp E13 E18
namespace E18
def z:El:=.mk 0 false 0 true [] (some 0) true [] (some 0)
def ex:El:=.mk 0 true 16 true [] (some 0) false [.mk 0 false 2 false [7] (some 1) true [] (some 0),.mk 0 false 5 true [] (some 0) true [] (some 0)] (some 2)
theorem ex_con:Con E 20 41 [] ex.av:=.of (g:=[]) rfl (by kernel_rfl)
theorem z_ok:z.ok:=by simp [z,El.ok,El.oks,isB]
theorem ex_ok:ex.ok:=by simp [ex,El.ok,El.oks,isB]
theorem ex_sm:ex.sm:=by simp [ex,El.sm,El.sms]
theorem ex_chk:(chk ex.core 1 0 0).1=0:=by decide +kernel
theorem ex_enc:enc ex.core=[48,5,2,1,7,5,0]:=by decide +kernel
theorem z_av:z.av=.agg [.int .u8 0,.bool false,.int .u32 0,.sl true [] (some 0),.sl true [] (some 0)]:=rfl
theorem at_bad (e:El) (he:e.ok) (f c) (h:(chk e.core 1 0 0).1 ≠ 0) (ps:List AV) (hp:AV.pureL ps=true):∃ N,Con E N 25 [e.av,.sl f ps c] (.tup [z.av,.int .i64 (chk e.core 1 0 0).1]):=by
  obtain ⟨N,C⟩:=E10.check e he
  have C':=C (N + 10) (by omega) 0
  rw [El.av_eq] at C'
  refine ⟨N + 10 + 1,con_of E_fn25 (by simp [AV.pureL,El.av_pure,AV.pure,hp]) (Nat.le_of_ble_eq_true rfl) rfl rfl (g:=[]) ?_⟩
  rw [body_25,c25,z_av]
  simp [El.av_eq,C',h,hp]
theorem isB_app {a b:List Int} (ha:isB a) (hb:isB b):isB (a ++ b):=fun x h => (List.mem_append.1 h).elim (ha x) (hb x)
theorem oct_B (v:Int) (k:Nat):0 ≤ TG.oct v k ∧ TG.oct v k < 256:=by
  unfold TG.oct
  generalize v / 2 ^ (7 * k)=w
  split <;> omega
theorem grp_B (v:Int):isB (TG.grp v):=by
  unfold TG.grp
  split <;> intro x hx <;> simp at hx <;> (rcases hx with rfl | rfl | rfl | rfl) <;> exact oct_B _ _
theorem tagO_B (c k n) (hc:0 ≤ c) (hc3:c ≤ 3) (hn:0 ≤ n):isB (TG.tagO c k n):=by
  unfold TG.tagO
  split
  · intro x hx; simp at hx; subst hx; cases k <;> simp <;> omega
  · rw [isB_cons]; exact ⟨by cases k <;> simp <;> omega,grp_B n⟩
theorem lenO_B (n:Int) (h0:0 ≤ n) (h1:n ≤ 16777215):isB (lenO n):=by
  unfold lenO
  split
  · intro x hx; simp at hx; omega
  split
  · intro x hx; simp at hx; omega
  split
  · intro x hx; simp at hx; omega
  · intro x hx; simp at hx; omega
theorem encs_B:∀ l:List El,(∀ x ∈ l,isB (enc x.core)) → isB (encs (El.cores l))
  | [],_ => isB_nil
  | x :: r,h => by
    rw [El.cores,encs]
    exact isB_app (h x (List.mem_cons_self ..)) (encs_B r fun y hy => h y (List.mem_cons_of_mem _ hy))
theorem encs_mem {x:El}:∀ {l:List El},x ∈ l → (enc x.core).length ≤ (encs (El.cores l)).length
  | y :: r,h => by
    rw [El.cores,encs,List.length_append]
    rcases List.mem_cons.1 h with rfl | h
    · omega
    · have:=encs_mem h; omega
theorem enc_B:∀ e:El,e.ok → vld e.core → (enc e.core).length ≤ 16777215 → isB (enc e.core):=by
  refine El.ind fun e ih he hv hl => ?_
  have v:=(vld_eq e).1 hv
  have hs:=encs_B e.s fun x hx => ih x hx (he.sub x hx) (vlds_all.1 v.2.2.2 x hx) (by
    have:=encs_mem hx
    rw [enc_eq] at hl
    simp only [List.length_append] at hl
    omega)
  have t:e.c ≤ 3:=by
    have:=v.1
    unfold tagE at this
    by_cases q:3 < e.c ∨ 268435455 < e.n
    · rw [if_pos q] at this; cases this
    · omega
  rw [enc_eq] at hl ⊢
  simp only [List.length_append] at hl
  exact isB_app (tagO_B _ _ _ he.cb.1 t he.nb.1) (isB_app (lenO_B _ (by omega) (by simp only [List.length_append]; omega)) (isB_app he.bb hs))
theorem cmpI_refl:∀ l:List Int,cmpI l l=0
  | [] => rfl
  | a :: r => by rw [cmpI,if_pos rfl]; exact cmpI_refl r
theorem law (e:El) (he:e.ok):∃ N,Con E N 9 [e.av] (.bool true):=by
  obtain ⟨N0,r,B,hr⟩:=bounded e he
  rcases hr with rfl | ⟨rfl,hb⟩
  · have B':=B (N0 + 300) (by omega) 0
    rw [El.av_eq] at B'
    have l:=LV.l04 (N0 + 300) (by omega) 0
    refine ⟨N0 + 300 + 1,con_of E_fn9 (by simp [AV.pureL,El.av_pure]) (Nat.le_of_ble_eq_true rfl) rfl rfl (g:=[]) ?_⟩
    rw [body_9,c9]
    simp [El.av_eq,B',l]
  have hcnt:cnt e.core ≤ 60:=by
    obtain ⟨_,_,_,hm⟩:=hb
    rw [cnt_many e.core 60 (by omega) hm]; exact hm
  have hf:=fw_bd e hb
  have hs:=fw_sm (by omega) e hf (by omega)
  have hl:=fw_len e hf
  have hl2:(enc e.core).length ≤ 1048576:=by omega
  obtain ⟨N1,C1⟩:=E11.check e he
  obtain ⟨N2,C2⟩:=E10.check e he
  obtain ⟨N3,C3⟩:=E10.count e he
  obtain ⟨N4,C4⟩:=E10.depth e he
  by_cases hw:(chk e.core 1 0 0).1=0
  · have hv:=vld_of _ _ _ _ hw
    have cd:=chk_dep e.core 1 0 0 hw
    have dp:=dep_pos e.core
    have dc:=dep_cnt e.core
    have rc1:E11.rc e.core 1 0=(0,cnt e.core):=by
      unfold E11.rc
      rw [if_pos hw,hw,cd.2.1,Int.zero_add]
    have m1:(E5.meas e).2.1=cnt e.core ∧ (E5.meas e).2.2=dep e.core:=by
      unfold E5.meas; rw [if_pos hw]; exact ⟨by rw [cd.2.1]; omega,by rw [cd.1]; omega⟩
    obtain ⟨N5,C5⟩:=E10.put_ok e he hs hw hl2
    obtain ⟨N6,v,C6,hv6⟩:=E14.same_ok e e he he hw hw
    obtain rfl:=hv6.2 rfl
    obtain ⟨N7,C7⟩:=E17.rput e he hv (by omega)
    obtain ⟨N8,C8⟩:=E10.size_ok e he hs hw
    rw [if_pos hl2] at C8
    obtain ⟨N9,C9⟩:=E12.depth e he (by omega)
    obtain ⟨K,hK⟩:∃ K,N0 + N1 + N2 + N3 + N4 + N5 + N6 + N7 + N8 + N9 + 300=K:=⟨_,rfl⟩
    have w0:=B K (by omega) 0
    have w1:=C1 K (by omega) 1 0 (by omega) (by omega) (by omega) (by omega)
    rw [rc1] at w1
    have w2:=C2 K (by omega) 0
    rw [hw] at w2
    have w3:=C3 K (by omega) 0
    rw [m1.1] at w3
    have w4:=C4 K (by omega) 0
    rw [m1.2] at w4
    have w5:=C5 K (by omega) 0
    have w6:=C6 K (by omega) 0
    have w7:=C7 K (by omega) 0
    have w8:=C8 K (by omega) 0
    have w9:=C9 K (by omega) 0
    have l:=LV.l04 K (by omega) 0
    rw [El.av_eq] at w0 w1 w2 w3 w4 w5 w6 w7 w8 w9
    have eb:isB (enc e.core):=enc_B e he hv (by omega)
    have gb:=bs_go eb
    refine ⟨K + 1,con_of E_fn9 (by simp [AV.pureL,El.av_pure]) (Nat.le_of_ble_eq_true rfl) rfl rfl (g:=[]) ?_⟩
    rw [body_9,c9]
    simp [El.av_eq,w0,w1,w2,w3,w4,w5,w6,w7,w8,w9,l,gb]
  · have m1:(E5.meas e).2.1=0 ∧ (E5.meas e).2.2=0:=by unfold E5.meas; rw [if_neg hw]; exact ⟨rfl,rfl⟩
    have rc1:E11.rc e.core 1 0=((chk e.core 1 0 0).1,0):=by unfold E11.rc; rw [if_neg hw]
    obtain ⟨N5,C5⟩:=E10.put_bad e he hw
    obtain ⟨N6,C6⟩:=E14.same_bad e e he hw
    obtain ⟨N7,C7⟩:=at_bad e he true (some 0) hw [] rfl
    obtain ⟨N8,C8⟩:=E10.size_bad e he hw
    obtain ⟨N9,C9⟩:=E1.same z z z_ok rfl
    obtain ⟨N10,C10⟩:=E10.put_ok ex ex_ok ex_sm ex_chk (by rw [ex_enc]; decide)
    have C11:=E14.compare e ex _ _ _ _ [] _ isB_nil (by rw [ex_enc]; simp [isB]) (N5 + N10) _ _ (C5.mono (by omega)) (C10.mono (by omega))
    have C12:=E14.compare e e _ _ _ _ [] [] isB_nil isB_nil (N5 + N10) _ _ (C5.mono (by omega)) (C5.mono (by omega))
    obtain ⟨w,hw'⟩:∃ w,(chk e.core 1 0 0).1=w:=⟨_,rfl⟩
    rw [hw'] at hw rc1
    obtain ⟨K,hK⟩:∃ K,N0 + N1 + N2 + N3 + N4 + N5 + N6 + N7 + N8 + N9 + N10 + 300=K:=⟨_,rfl⟩
    have w0:=B K (by omega) 0
    have w1:=C1 K (by omega) 1 0 (by omega) (by omega) (by omega) (by omega)
    rw [rc1] at w1
    have w2:=C2 K (by omega) 0
    rw [hw'] at w2
    have w3:=C3 K (by omega) 0
    rw [m1.1] at w3
    have w4:=C4 K (by omega) 0
    rw [m1.2] at w4
    have w5:=C5 K (by omega) 0
    rw [hw'] at w5
    have w6:=C6 K (by omega) 0
    have w7:=C7 K (by omega) 0
    rw [hw'] at w7
    have w8:=C8 K (by omega) 0
    have w9:=C9 K (by omega) 0
    have w10:=ex_con K (by omega) 0
    have w11:=C11 K (by omega) 0
    have w12:=C12 K (by omega) 0
    rw [ex_enc] at w11
    rw [cmpI_refl] at w12
    have w13:cmpI [] [48,5,2,1,7,5,0] = -1:=rfl
    rw [w13] at w11
    have l:=LV.l04 K (by omega) 0
    have xa:∃ cs,ex.av=.agg cs ∧ AV.pureL cs=true:=⟨_,rfl,rfl⟩
    obtain ⟨xs,xa,xp⟩:=xa
    rw [xa] at w10 w11
    rw [z_av] at w7 w9
    rw [El.av_eq] at w0 w1 w2 w3 w4 w5 w6 w7 w8 w11 w12
    refine ⟨K + 1,con_of E_fn9 (by simp [AV.pureL,El.av_pure]) (Nat.le_of_ble_eq_true rfl) rfl rfl (g:=[]) ?_⟩
    rw [body_9,c9]
    simp [El.av_eq,w0,w1,w2,w3,w4,w5,w6,w7,w8,w9,w10,w11,w12,l,hw,xp]
end E18
end
end
section
open Ab Go TabE Sp
namespace E40
theorem byte_at (f c) (xs:List Int) (i:Nat) (x:Int) (h:xs[i]? = some x):∀ hp,indexAddrA E 22 (.sl f (bs xs) c) (.int .i64 i) hp=some (.pel [.int .u8 x]):=by
  intro hp
  have hi:i < xs.length:=(List.getElem?_eq_some_iff.1 h).1
  unfold indexAddrA
  simp only [E_ty22,E_ty5]
  rw [if_pos ⟨by omega,by rw [bs_len]; omega⟩]
  simp only [Int.toNat_natCast,bs,List.getElem?_map,h,Option.map_some]
  rfl
end E40
end
section
open Ab Go TabE Sp E40
namespace Sp
def gl:List Int → Int × Int × Int
  | [] => (0,0,7)
  | x :: r => if x ≤ 127 then (x,1,0)
    else if x=128 ∨ 131 < x then (0,0,10)
    else if x=129 then (match r with
      | y :: _ => if y ≤ 127 then (0,0,10) else (y,2,0)
      | _ => (0,0,7))
    else if x=130 then (match r with
      | y :: z :: _ => if y=0 then (0,0,10) else (256 * y + z,3,0)
      | _ => (0,0,7))
    else (match r with
      | y :: z :: u :: _ => if y=0 then (0,0,10) else (256 * (256 * y + z) + u,4,0)
      | _ => (0,0,7))
end Sp
end
section
open Ab Go TabE
attribute [local simp ↓] s_seq s_reg s_regd s_cond s_block s_cons s_consG
attribute [local simp] s_nil s_loop s_round s_lpn s_lpe s_lpr firstReg s_gt s_gf s_wb s_wu s_val s_valN s_skip s_calls s_callP s_cax lookR flatR pureKs s_ret s_rgx s_sqn s_sqr s_sqe s_cdb s_bkn s_bkr s_bke s_exit s_ret' s_skip' s_finr s_finn s_fin1 s_fix s_clean s_gc0 o_tmp o_int o_bool o_nil o_str o_fn o_nil' l_hit l_miss l_nil ol_nil ol_cons ol_some x_move x_assign x_pick pk_t pk_f x_bin bn_s x_un x_extract x_callF cl_no x_callB x_callBF frzV x_conv cvx convA frame0 binA intOp resL resA results1 sealLW AV.pure AV.pureL keepT x_alloc x_box bxx x_build bdx x_buildSlice bsx x_buildSliceF bsf x_load ldx x_store stx x_slice slx x_fieldAddr x_field x_index ixx x_indexAddr iax x_makeSlice msx x_makeSliceF msf x_nilCheck newK genOf setK lookK fillA writeL writeC readC conts TyI.mk1 sliceA boundsA boundsB fitsA numA indexAddrA fieldAddrA partA fieldA indexA appendA copyA builtinA AV.cells chunk gcH reach keysT keepK inKs AV.keys AV.keysL Ty.isAgg eq1 eqL convA.go ltI w_u8 w_u32 w_u64 w_i64 w_fdiv w_tdiv w_tmod IntKind.bits unA sc_int sc_bool sc_str sc_sl sc_ref sc_ptr sc_pel sc_nilp sc_fn sc_nilf sc_if sc_nili sc_agg sc_tup sc_mem bs_pure bs_kl bs_length bs_cells bs_all sl_row sealRow sealY sl_int sl_bool sl_str sl_sl sl_nilp sl_nilf sl_nili sl_pel sl_agg sl_tup sl_fn sl_if nat_1 bs_cons bs_nil i_beq i_bne x_mkF x_mkI x_tassert x_panic s_pan s_sqp s_bkp s_finp s_fixp s_lpp s_rgp s_retp s_site s_stxN s_stxO x_callT clx El.avs_len
section
open Ab Go TabE Sp E40
namespace E51
theorem aLoop_cl {g:St → Option (AExit × St)} {cl:St → St} {n:Nat} {s s':St} (h:cl s=cl s'):aLoop g cl n s=aLoop g cl n s':=by cases n <;> simp only [aLoop,h]
end E51
end
end
section
open Ab Go TabE
attribute [local simp ↓] s_seq s_reg s_regd s_cond s_block s_cons s_consG s_regD
attribute [local simp] s_nil s_loop s_round s_lpn s_lpe s_lpr firstReg s_gt s_gf s_wb s_wu s_val s_valN s_skip s_calls s_callP s_cax lookR flatR pureKs s_ret s_rgx s_sqn s_sqr s_sqe s_cdb s_bkn s_bkr s_bke s_exit s_ret' s_skip' s_finr s_finn s_fin1 s_fix s_clean s_gc0 o_tmp o_int o_bool o_nil o_str o_fn o_nil' l_hit l_miss l_nil ol_nil ol_cons ol_some x_move x_assign x_pick pk_t pk_f x_bin bn_s x_un x_extract x_callF cl_no x_callB x_callBF frzV x_conv cvx convA frame0 binA intOp resL resA results1 sealLW AV.pure AV.pureL keepT x_alloc x_box bxx x_build bdx x_buildSlice bsx x_buildSliceF bsf x_load ldx x_store stx x_slice slx x_fieldAddr x_field x_index ixx x_indexAddr iax x_makeSlice msx x_makeSliceF msf x_nilCheck newK genOf setK lookK fillA writeL writeC readC conts TyI.mk1 sliceA boundsA boundsB fitsA numA indexAddrA fieldAddrA partA fieldA indexA appendA copyA builtinA AV.cells chunk gcH reach keysT keepK inKs AV.keys AV.keysL Ty.isAgg eq1 eqL convA.go ltI w_u8 w_u32 w_u64 w_i64 w_fdiv w_tdiv w_tmod IntKind.bits unA sc_int sc_bool sc_str sc_sl sc_ref sc_ptr sc_pel sc_nilp sc_fn sc_nilf sc_if sc_nili sc_agg sc_tup sc_mem bs_pure bs_kl bs_length bs_cells bs_all sl_row sealRow sealY sl_int sl_bool sl_str sl_sl sl_nilp sl_nilf sl_nili sl_pel sl_agg sl_tup sl_fn sl_if nat_1 bs_cons bs_nil i_beq i_bne x_mkF x_mkI x_tassert x_panic s_pan s_sqp s_bkp s_finp s_fixp s_lpp s_rgp s_retp s_site s_stxN s_stxO x_callT clx El.avs_len s_dyn0 s_rgy barOf dynChk footL dynOK disjK keysOp opVals Op.operands
section
open Ab Go TabE Sp F1
namespace F2
def lb (x:Int):List Int:=if (tg x).1=0 ∧ (tg x).2.2=1 then [255] else if (tg x).1=0 ∧ (tg x).2.2=2 then [x / 8] else List.replicate (x * (x / 64)).toNat 0
def leaf (x:Int):El:=.mk (tg x).1 false (tg x).2.2 false (lb x) (some (lb x).length) true [] (some 0)
def node (x:Int) (s:List El):El:=.mk (tg x).1 true (tg x).2.2 true [] (some 0) s.isEmpty s (if s.isEmpty then some 0 else none)
def bB:Code:=lp c81 0
abbrev S0 (fl:Bool) (cs:List Int) (cp:Option Nat) (i lv:Nat):St:=⟨[(0,.sl fl (bs cs) cp),(1,.int .i64 (i:Int)),(2,.int .i64 (lv:Int)),(8,.sl true [] (some 0))],[]⟩
abbrev SR (fl:Bool) (cs:List Int) (cp:Option Nat) (i lv:Nat) (l:List El) (g:Nat):St:=⟨[(0,.sl fl (bs cs) cp),(1,.int .i64 (i:Int)),(2,.int .i64 (lv:Int)),(8,.ref (1,84,g) 0 l.length none)],[((1,84,g),⟨El.fl l,true,true,false,5,true⟩)]⟩
theorem last0 (q k1:Nat) (fl cs cp) (i lv:Nat) (h:cs.length ≤ i ∨ 40 ≤ i):rnd fn81 bB q k1 (S0 fl cs cp i lv)=some (.exit 0,⟨[(0,.sl fl (bs cs) cp),(1,.int .i64 (i:Int)),(2,.int .i64 (lv:Int)),(8,.sl true [] (some 0)),(18,.bool false)],[]⟩):=by
  by_cases h1:i < cs.length
  · have h2:¬ (i:Int) < 40:=by omega
    have h3:¬ i < 40:=by omega
    simp [bB,lp,lps,c81,h1,h2,h3]
  · simp [bB,lp,lps,c81,h1]
theorem lastR (q k1:Nat) (fl cs cp) (i lv:Nat) (l:List El) (g:Nat) (h:cs.length ≤ i ∨ 40 ≤ i):rnd fn81 bB q k1 (SR fl cs cp i lv l g)=some (.exit 0,⟨[(0,.sl fl (bs cs) cp),(1,.int .i64 (i:Int)),(2,.int .i64 (lv:Int)),(8,.ref (1,84,g) 0 l.length none),(18,.bool false)],[((1,84,g),⟨El.fl l,true,true,false,5,true⟩)]⟩):=by
  have f2:=El.fl_keys l
  by_cases h1:i < cs.length
  · have h2:¬ (i:Int) < 40:=by omega
    have h3:¬ i < 40:=by omega
    simp [bB,lp,lps,c81,h1,h2,h3,f2]
  · simp [bB,lp,lps,c81,h1,f2]
theorem end0 (q k1:Nat) (fl cs cp) (i lv:Nat) (x:Int) (hx:cs[i]? = some x) (i40:i < 40) (x0:0 ≤ x) (hm:x % 16=15):rnd fn81 bB q k1 (S0 fl cs cp i lv)=some (.ret,⟨[(6,.sl true [] (some 0)),(7,.int .i64 ((i:Int) + 1))],[]⟩):=by
  have hi:i < cs.length:=(List.getElem?_eq_some_iff.1 hx).1
  have ix:=E40.byte_at fl cp cs i x hx
  have w:=w64' ((i:Int) + 1) (by omega) (by omega)
  have i40':(i:Int) < 40:=by omega
  have t1:Int.tmod x 16=x % 16:=Int.tmod_eq_emod_of_nonneg x0
  simp [bB,lp,lps,c81,-indexAddrA,ix,w,hi,i40,i40',t1,hm]
theorem endR (q k1:Nat) (fl cs cp) (i lv:Nat) (l:List El) (g:Nat) (x:Int) (hx:cs[i]? = some x) (i40:i < 40) (x0:0 ≤ x) (hm:x % 16=15):rnd fn81 bB q k1 (SR fl cs cp i lv l g)=some (.ret,⟨[(6,.ref (1,84,g) 0 l.length none),(7,.int .i64 ((i:Int) + 1))],[((1,84,g),⟨El.fl l,true,true,false,5,true⟩)]⟩):=by
  have hi:i < cs.length:=(List.getElem?_eq_some_iff.1 hx).1
  have ix:=E40.byte_at fl cp cs i x hx
  have w:=w64' ((i:Int) + 1) (by omega) (by omega)
  have i40':(i:Int) < 40:=by omega
  have t1:Int.tmod x 16=x % 16:=Int.tmod_eq_emod_of_nonneg x0
  have f2:=El.fl_keys l
  simp [bB,lp,lps,c81,-indexAddrA,ix,w,hi,i40,i40',t1,hm,f2]
abbrev S5 (fl:Bool) (cs:List Int) (cp:Option Nat) (i:Nat) (x:Int):St:=⟨[(0,.sl fl (bs cs) cp),(1,.int .i64 (i:Int)),(2,.int .i64 5),(8,.sl true [] (some 0)),(10,.ptr (1,10,0) 0),(37,.bool true)],[((1,10,0),bx [.int .u8 (tg x).1,.bool (tg x).2.1,.int .u32 (tg x).2.2,.sl true [] (some 0),.sl true [] (some 0)])]⟩
abbrev SR5 (fl:Bool) (cs:List Int) (cp:Option Nat) (i:Nat) (l:List El) (g:Nat) (x:Int):St:=⟨[(0,.sl fl (bs cs) cp),(1,.int .i64 (i:Int)),(2,.int .i64 5),(8,.ref (1,84,g) 0 l.length none),(10,.ptr (1,10,0) 0),(37,.bool true)],[((1,84,g),⟨El.fl l,true,true,false,5,true⟩),((1,10,0),bx [.int .u8 (tg x).1,.bool (tg x).2.1,.int .u32 (tg x).2.2,.sl true [] (some 0),.sl true [] (some 0)])]⟩
abbrev TagC (q:Nat) (x:Int):Prop:=∀ h,aCall E q 0 44 [.int .u8 x] h=some (.ret (.agg [.int .u8 (tg x).1,.bool (tg x).2.1,.int .u32 (tg x).2.2]),h)
theorem skip0 (q k1:Nat) (fl cs cp) (i:Nat) (x:Int) (hx:cs[i]? = some x) (i40:i < 40) (x0:0 ≤ x) (hm:¬ x % 16=15) (T:TagC q x) (k:(tg x).2.1=true):rnd fn81 bB q k1 (S0 fl cs cp i 5)=some (.normal,S5 fl cs cp (i + 1) x):=by
  have hi:i < cs.length:=(List.getElem?_eq_some_iff.1 hx).1
  have ix:=E40.byte_at fl cp cs i x hx
  have w:=w64' ((i:Int) + 1) (by omega) (by omega)
  have i40':(i:Int) < 40:=by omega
  have t1:Int.tmod x 16=x % 16:=Int.tmod_eq_emod_of_nonneg x0
  simp [bB,lp,lps,c81,-indexAddrA,ix,w,hi,i40,i40',t1,hm,T,k]
theorem skipR (q k1:Nat) (fl cs cp) (i:Nat) (l:List El) (g:Nat) (x:Int) (hx:cs[i]? = some x) (i40:i < 40) (x0:0 ≤ x) (hm:¬ x % 16=15) (T:TagC q x) (k:(tg x).2.1=true):rnd fn81 bB q k1 (SR fl cs cp i 5 l g)=some (.normal,SR5 fl cs cp (i + 1) l g x):=by
  have hi:i < cs.length:=(List.getElem?_eq_some_iff.1 hx).1
  have ix:=E40.byte_at fl cp cs i x hx
  have w:=w64' ((i:Int) + 1) (by omega) (by omega)
  have i40':(i:Int) < 40:=by omega
  have t1:Int.tmod x 16=x % 16:=Int.tmod_eq_emod_of_nonneg x0
  have f2:=El.fl_keys l
  simp [bB,lp,lps,c81,-indexAddrA,ix,w,hi,i40,i40',t1,hm,T,k,f2]
theorem cl0 (fl cs cp i x):cleanS 1 ((firstReg bB).bind fn81.head) (S5 fl cs cp i x)=cleanS 1 ((firstReg bB).bind fn81.head) (S0 fl cs cp i 5):=rfl
theorem clR (fl cs cp i l g x):cleanS 1 ((firstReg bB).bind fn81.head) (SR5 fl cs cp i l g x)=cleanS 1 ((firstReg bB).bind fn81.head) (SR fl cs cp i 5 l g):=by
  have f2:=El.fl_keys l
  simp [bB,lp,lps,c81,firstReg,cleanS,keepT,lookT,gcH,reach,keysT,AV.keys,keepK,inKs,lookK,f2,AV.keysL,bx]
end F2
end
section
open Ab Go TabE Sp F1 F2
namespace F3
abbrev BC (q:Nat) (fl:Bool) (cs:List Int) (cp:Option Nat) (i lv:Nat) (s:List El) (i':Nat):Prop:=∀ h,aCall E q 0 81 [.sl fl (bs cs) cp,.int .i64 (i:Int),.int .i64 (lv:Int)] h=some (.ret (.tup [.sl s.isEmpty (El.avs s) (if s.isEmpty then some 0 else none),.int .i64 (i':Int)]),h)
theorem node0 (q k1:Nat) (fl cs cp) (i lv:Nat) (x:Int) (s:List El) (i':Nat) (hx:cs[i]? = some x) (i40:i < 40) (x0:0 ≤ x) (hm:¬ x % 16=15) (T:TagC q x) (k:(tg x).2.1=true) (l5:lv < 5) (B:BC q fl cs cp (i + 1) (lv + 1) s i'):rnd fn81 bB q k1 (S0 fl cs cp i lv)=some (.normal,SR fl cs cp i' lv [node x s] 0):=by
  have hi:i < cs.length:=(List.getElem?_eq_some_iff.1 hx).1
  have ix:=E40.byte_at fl cp cs i x hx
  have w:=w64' ((i:Int) + 1) (by omega) (by omega)
  have w2:=w64' ((lv:Int) + 1) (by omega) (by omega)
  have i40':(i:Int) < 40:=by omega
  have l5':¬ (lv:Int)=5:=by omega
  have l6':¬ lv=5:=by omega
  have t1:Int.tmod x 16=x % 16:=Int.tmod_eq_emod_of_nonneg x0
  rw [node]
  have e1:((i + 1:Nat):Int)=(i:Int) + 1:=by omega
  have e2:((lv + 1:Nat):Int)=(lv:Int) + 1:=by omega
  unfold BC at B
  rw [e1,e2] at B
  simp [bB,lp,lps,c81,-indexAddrA,ix,w,w2,hi,i40,i40',t1,hm,T,k,l5',l6',B,El.fl_mk1]
theorem nodeR (q k1:Nat) (fl cs cp) (i lv:Nat) (l:List El) (g:Nat) (x:Int) (s:List El) (i':Nat) (hl:l.length ≤ 1000) (hx:cs[i]? = some x) (i40:i < 40) (x0:0 ≤ x) (hm:¬ x % 16=15) (T:TagC q x) (k:(tg x).2.1=true) (l5:lv < 5) (B:BC q fl cs cp (i + 1) (lv + 1) s i'):rnd fn81 bB q k1 (SR fl cs cp i lv l g)=some (.normal,SR fl cs cp i' lv (l ++ [node x s]) (g + 1)):=by
  have hi:i < cs.length:=(List.getElem?_eq_some_iff.1 hx).1
  have ix:=E40.byte_at fl cp cs i x hx
  have w:=w64' ((i:Int) + 1) (by omega) (by omega)
  have w2:=w64' ((lv:Int) + 1) (by omega) (by omega)
  have i40':(i:Int) < 40:=by omega
  have l5':¬ (lv:Int)=5:=by omega
  have l6':¬ lv=5:=by omega
  have t1:Int.tmod x 16=x % 16:=Int.tmod_eq_emod_of_nonneg x0
  rw [node]
  have e1:((i + 1:Nat):Int)=(i:Int) + 1:=by omega
  have e2:((lv + 1:Nat):Int)=(lv:Int) + 1:=by omega
  unfold BC at B
  rw [e1,e2] at B
  have cs5:(l.length + 1) * 56 ≤ 70368744177664:=by omega
  have f1:=El.fl_len l
  have f2:=El.fl_keys l
  have f3:(El.fl l).take (l.length * 5)=El.fl l:=by rw [El.fl_take,List.take_length]
  have f4:=El.fl_pure l
  have f5:=El.fl_scal l
  simp [bB,lp,lps,c81,-indexAddrA,ix,w,w2,hi,i40,i40',t1,hm,T,k,l5',l6',B,El.fl_mkS,f1,f2,f3,f4,f5,cs5,El.fl_keysr]
theorem lb_z (n:Nat):List.replicate n (AV.int .u8 0)=bs (List.replicate n 0):=by simp [bs]
theorem chk_z (n:Nat):chunk false 1 n (bs (List.replicate n 0))=bs (List.replicate n 0):=by
  have:=El.chk_bs (List.replicate n 0)
  simpa using this
theorem take_z (n:Nat):(bs (List.replicate n 0)).take n=bs (List.replicate n 0):=by
  rw [List.take_of_length_le]; rw [bs_len]; simp
theorem leaf_cases (x:Int) (h0:0 ≤ x) (h1:x < 256):((tg x).1=0 ∧ (tg x).2.2=1 ∧ leaf x=.mk 0 false 1 false [255] (some 1) true [] (some 0)) ∨ ((tg x).1=0 ∧ (tg x).2.2=2 ∧ leaf x=.mk 0 false 2 false [x / 8] (some 1) true [] (some 0)) ∨
    (¬ ((tg x).1=0 ∧ (tg x).2.2=1) ∧ ¬ ((tg x).1=0 ∧ (tg x).2.2=2) ∧ ∃ n:Nat,x * (x / 64)=n ∧ n ≤ 1000 ∧ leaf x=.mk (tg x).1 false (tg x).2.2 false (List.replicate n 0) (some n) true [] (some 0)):=by
  by_cases a:(tg x).1=0 ∧ (tg x).2.2=1
  · exact .inl ⟨a.1,a.2,by unfold leaf lb; rw [if_pos a,a.1,a.2]; rfl⟩
  by_cases b:(tg x).1=0 ∧ (tg x).2.2=2
  · exact .inr (.inl ⟨b.1,b.2,by unfold leaf lb; rw [if_neg a,if_pos b,b.1,b.2]; rfl⟩)
  · refine .inr (.inr ⟨a,b,?_⟩)
    have q:x / 64=0 ∨ x / 64=1 ∨ x / 64=2 ∨ x / 64=3:=by omega
    obtain ⟨n,hn⟩:∃ n:Nat,x * (x / 64)=n:=⟨(x * (x / 64)).toNat,(Int.toNat_of_nonneg (Int.mul_nonneg h0 (by omega))).symm⟩
    refine ⟨n,hn,by rcases q with q | q | q | q <;> rw [q] at hn <;> omega,?_⟩
    unfold leaf lb; rw [if_neg a,if_neg b,hn]; simp
theorem leaf0 (q k1:Nat) (fl cs cp) (i lv:Nat) (x:Int) (hx:cs[i]? = some x) (i40:i < 40) (x0:0 ≤ x) (x1:x < 256) (hm:¬ x % 16=15) (T:TagC q x) (k:(tg x).2.1=false):rnd fn81 bB q k1 (S0 fl cs cp i lv)=some (.normal,SR fl cs cp (i + 1) lv [leaf x] 0):=by
  have hi:i < cs.length:=(List.getElem?_eq_some_iff.1 hx).1
  have ix:=E40.byte_at fl cp cs i x hx
  have w:=w64' ((i:Int) + 1) (by omega) (by omega)
  have i40':(i:Int) < 40:=by omega
  have t1:Int.tmod x 16=x % 16:=Int.tmod_eq_emod_of_nonneg x0
  have t2:Int.tdiv x 8=x / 8:=Int.tdiv_eq_ediv_of_nonneg x0
  have t3:Int.tdiv x 64=x / 64:=Int.tdiv_eq_ediv_of_nonneg x0
  have w8:(x / 8) % 256=x / 8:=Int.emod_eq_of_lt (by omega) (by omega)
  have w9:(x / 64) % 256=x / 64:=Int.emod_eq_of_lt (by omega) (by omega)
  have w10:=w64' x (by omega) (by omega)
  have w11:=w64' (x / 64) (by omega) (by omega)
  rcases leaf_cases x x0 x1 with ⟨a,b,e⟩ | ⟨a,b,e⟩ | ⟨a,b,n,hn,nb,e⟩
  · rw [e]; simp [bB,lp,lps,c81,-indexAddrA,ix,w,hi,i40,i40',t1,hm,T,k,a,b,El.fl_mk1,El.avs]
  · rw [e]; simp [bB,lp,lps,c81,-indexAddrA,ix,w,hi,i40,i40',t1,hm,T,k,a,b,t2,w8,El.fl_mk1,El.avs]
  · have w12:=w64' (n:Int) (by omega) (by omega)
    have n1:(n:Int) ≤ 70368744177664:=by omega
    rw [e]
    by_cases a0:(tg x).1=0
    · have a1:¬ (tg x).2.2=1:=fun h => a ⟨a0,h⟩
      have b1:¬ (tg x).2.2=2:=fun h => b ⟨a0,h⟩
      simp [bB,lp,lps,c81,-indexAddrA,ix,w,hi,i40,i40',t1,hm,T,k,a0,a1,b1,t3,w9,w10,w11,w12,hn,n1,lb_z,chk_z,take_z,El.fl_mk1,El.avs]
    · simp [bB,lp,lps,c81,-indexAddrA,ix,w,hi,i40,i40',t1,hm,T,k,a0,t3,w9,w10,w11,w12,hn,n1,lb_z,chk_z,take_z,El.fl_mk1,El.avs]
theorem leafR (q k1:Nat) (fl cs cp) (i lv:Nat) (l:List El) (g:Nat) (x:Int) (hl:l.length ≤ 1000) (hx:cs[i]? = some x) (i40:i < 40) (x0:0 ≤ x) (x1:x < 256) (hm:¬ x % 16=15) (T:TagC q x) (k:(tg x).2.1=false):rnd fn81 bB q k1 (SR fl cs cp i lv l g)=some (.normal,SR fl cs cp (i + 1) lv (l ++ [leaf x]) (g + 1)):=by
  have hi:i < cs.length:=(List.getElem?_eq_some_iff.1 hx).1
  have ix:=E40.byte_at fl cp cs i x hx
  have w:=w64' ((i:Int) + 1) (by omega) (by omega)
  have i40':(i:Int) < 40:=by omega
  have t1:Int.tmod x 16=x % 16:=Int.tmod_eq_emod_of_nonneg x0
  have t2:Int.tdiv x 8=x / 8:=Int.tdiv_eq_ediv_of_nonneg x0
  have t3:Int.tdiv x 64=x / 64:=Int.tdiv_eq_ediv_of_nonneg x0
  have w8:(x / 8) % 256=x / 8:=Int.emod_eq_of_lt (by omega) (by omega)
  have w9:(x / 64) % 256=x / 64:=Int.emod_eq_of_lt (by omega) (by omega)
  have w10:=w64' x (by omega) (by omega)
  have w11:=w64' (x / 64) (by omega) (by omega)
  have cs5:(l.length + 1) * 56 ≤ 70368744177664:=by omega
  have f1:=El.fl_len l
  have f2:=El.fl_keys l
  have f3:(El.fl l).take (l.length * 5)=El.fl l:=by rw [El.fl_take,List.take_length]
  have f4:=El.fl_pure l
  have f5:=El.fl_scal l
  rcases leaf_cases x x0 x1 with ⟨a,b,e⟩ | ⟨a,b,e⟩ | ⟨a,b,n,hn,nb,e⟩
  · rw [e]; simp [bB,lp,lps,c81,-indexAddrA,ix,w,hi,i40,i40',t1,hm,T,k,a,b,El.fl_mkS,El.avs,f1,f2,f3,f4,f5,cs5,El.fl_keysr]
  · rw [e]; simp [bB,lp,lps,c81,-indexAddrA,ix,w,hi,i40,i40',t1,hm,T,k,a,b,t2,w8,El.fl_mkS,El.avs,f1,f2,f3,f4,f5,cs5,El.fl_keysr]
  · have w12:=w64' (n:Int) (by omega) (by omega)
    have n1:(n:Int) ≤ 70368744177664:=by omega
    rw [e]
    by_cases a0:(tg x).1=0
    · have a1:¬ (tg x).2.2=1:=fun h => a ⟨a0,h⟩
      have b1:¬ (tg x).2.2=2:=fun h => b ⟨a0,h⟩
      simp [bB,lp,lps,c81,-indexAddrA,ix,w,hi,i40,i40',t1,hm,T,k,a0,a1,b1,t3,w9,w10,w11,w12,hn,n1,lb_z,chk_z,take_z,El.fl_mkS,El.avs,f1,f2,f3,f4,f5,cs5,El.fl_keysr]
    · simp [bB,lp,lps,c81,-indexAddrA,ix,w,hi,i40,i40',t1,hm,T,k,a0,t3,w9,w10,w11,w12,hn,n1,lb_z,chk_z,take_z,El.fl_mkS,El.avs,f1,f2,f3,f4,f5,cs5,El.fl_keysr]
end F3
end
section
open Ab Go TabE Sp F1 F2 F3
namespace F4
def bld:Nat → List Int → Nat → Nat → List El × Nat
  | 0,_,i,_ => ([],i)
  | f + 1,cs,i,lv =>
    match cs[i]? with
    | none => ([],i)
    | some x =>
      if 40 ≤ i then ([],i)
      else if x % 16=15 then ([],i + 1)
      else if (tg x).2.1=true then
        (if lv=5 then bld f cs (i + 1) lv
        else (node x (bld f cs (i + 1) (lv + 1)).1 :: (bld f cs (bld f cs (i + 1) (lv + 1)).2 lv).1,(bld f cs (bld f cs (i + 1) (lv + 1)).2 lv).2))
      else (leaf x :: (bld f cs (i + 1) lv).1,(bld f cs (i + 1) lv).2)
theorem bld_le:∀ (f:Nat) (cs:List Int) (i lv:Nat),i ≤ 40 → i ≤ (bld f cs i lv).2 ∧ (bld f cs i lv).2 ≤ 40 ∧ (bld f cs i lv).1.length + i ≤ (bld f cs i lv).2
  | 0,cs,i,lv,h => by unfold bld; simp [h]
  | f + 1,cs,i,lv,h => by
    unfold bld
    cases cs[i]? with
    | none => simp [h]
    | some x =>
      simp only
      by_cases a:40 ≤ i
      · rw [if_pos a]; simp [h]
      rw [if_neg a]
      by_cases b:x % 16=15
      · rw [if_pos b]; simp; omega
      rw [if_neg b]
      have r1:=bld_le f cs (i + 1) lv (by omega)
      by_cases c:(tg x).2.1=true
      · rw [if_pos c]
        by_cases d:lv=5
        · rw [if_pos d]; omega
        · rw [if_neg d]
          have r2:=bld_le f cs (i + 1) (lv + 1) (by omega)
          have r3:=bld_le f cs (bld f cs (i + 1) (lv + 1)).2 lv r2.2.1
          simp only [List.length_cons]; omega
      · rw [if_neg c]; simp only [List.length_cons]; omega
abbrev Kn (f:Nat):Prop:=∀ (fl:Bool) (cs:List Int) (cp:Option Nat) (i lv:Nat),isB cs → i ≤ 40 → lv ≤ 5 → 41 - i ≤ f → Con E (f + 200) 81 [.sl fl (bs cs) cp,.int .i64 (i:Int),.int .i64 (lv:Int)] (.tup [.sl (bld f cs i lv).1.isEmpty (El.avs (bld f cs i lv).1) (if (bld f cs i lv).1.isEmpty then some 0 else none),.int .i64 ((bld f cs i lv).2:Int)])
abbrev Lp (K:Nat):=aLoop (aCode E (aCall E K) (dcall (aRun E K)) K 1 fn81 bB) (cleanS 1 ((firstReg bB).bind fn81.head))
def Sx (fl:Bool) (cs:List Int) (cp:Option Nat) (i lv:Nat) (l:List El):St:=if l=[] then S0 fl cs cp i lv else SR fl cs cp i lv l (l.length - 1)
def En1 (fl:Bool) (cs:List Int) (cp:Option Nat) (i lv:Nat) (l:List El):AExit × St:=if l=[] then (.exit 0,⟨[(0,.sl fl (bs cs) cp),(1,.int .i64 (i:Int)),(2,.int .i64 (lv:Int)),(8,.sl true [] (some 0)),(18,.bool false)],[]⟩) else (.exit 0,⟨[(0,.sl fl (bs cs) cp),(1,.int .i64 (i:Int)),(2,.int .i64 (lv:Int)),(8,.ref (1,84,l.length - 1) 0 l.length none),(18,.bool false)],[((1,84,l.length - 1),⟨El.fl l,true,true,false,5,true⟩)]⟩)
def En2 (i:Nat) (l:List El):AExit × St:=if l=[] then (.ret,⟨[(6,.sl true [] (some 0)),(7,.int .i64 (i:Int))],[]⟩) else (.ret,⟨[(6,.ref (1,84,l.length - 1) 0 l.length none),(7,.int .i64 (i:Int))],[((1,84,l.length - 1),⟨El.fl l,true,true,false,5,true⟩)]⟩)
theorem app_ne {l:List El} {x:El}:¬ (l ++ [x]=[]):=by simp
theorem app_len {l:List El} {x:El} (h:l ≠ []):(l ++ [x]).length - 1=l.length - 1 + 1:=by
  have:=List.length_pos_iff.2 h
  rw [List.length_append,List.length_singleton]; omega
theorem loop (K:Nat) (fl:Bool) (cs:List Int) (cp:Option Nat) (lv:Nat) (hb:isB cs) (l5:lv ≤ 5):∀ (f:Nat),(∀ j,j < f → Kn j) → f + 199 ≤ K → ∀ (i:Nat) (l:List El) (k:Nat),i ≤ 40 → l.length + (40 - i) ≤ 1000 → 41 - i ≤ f → 41 - i ≤ k →
    Lp K k (Sx fl cs cp i lv l)=some (En1 fl cs cp (bld f cs i lv).2 lv (l ++ (bld f cs i lv).1)) ∨ Lp K k (Sx fl cs cp i lv l)=some (En2 (bld f cs i lv).2 (l ++ (bld f cs i lv).1)):=by
  intro f
  induction f with
  | zero => intro _ _ i l k _ _ h; omega
  | succ f ih =>
    intro hK hf i l k hi hl h1 h2
    obtain ⟨k,rfl⟩:∃ j,k=j + 1:=⟨k - 1,by omega⟩
    have ends:cs.length ≤ i ∨ 40 ≤ i → Lp K (k + 1) (Sx fl cs cp i lv l)=some (En1 fl cs cp i lv (l ++ [])):=fun h => by
      unfold Sx En1
      rw [List.append_nil]
      by_cases hl0:l=[]
      · rw [if_pos hl0,if_pos hl0]; exact aLoop_end (last0 K K fl cs cp i lv h) (by simp)
      · rw [if_neg hl0,if_neg hl0]; exact aLoop_end (lastR K K fl cs cp i lv l _ h) (by simp)
    unfold bld
    cases hx:cs[i]? with
    | none => exact .inl (ends (.inl (List.getElem?_eq_none_iff.1 hx)))
    | some x =>
      simp only
      by_cases a:40 ≤ i
      · rw [if_pos a]; exact .inl (ends (.inr a))
      rw [if_neg a]
      have xb:=hb x (List.mem_of_getElem? hx)
      have T:TagC K x:=fun h => F1.tag x xb.1 xb.2 K (by omega) 0 h
      by_cases b:x % 16=15
      · rw [if_pos b]
        refine .inr ?_
        unfold Sx En2
        simp only [List.append_nil]
        by_cases hl0:l=[]
        · rw [if_pos hl0,if_pos hl0]; exact aLoop_end (end0 K K fl cs cp i lv x hx (by omega) xb.1 b) (by simp)
        · rw [if_neg hl0,if_neg hl0]; exact aLoop_end (endR K K fl cs cp i lv l _ x hx (by omega) xb.1 b) (by simp)
      rw [if_neg b]
      by_cases c:(tg x).2.1=true
      · rw [if_pos c]
        by_cases d:lv=5
        · rw [if_pos d]
          subst d
          have I:=ih (fun j hj => hK j (by omega)) (by omega) (i + 1) l k (by omega) (by omega) (by omega) (by omega)
          have st:Lp K (k + 1) (Sx fl cs cp i 5 l)=Lp K k (Sx fl cs cp (i + 1) 5 l):=by
            unfold Sx
            by_cases hl0:l=[]
            · rw [if_pos hl0,if_pos hl0]
              exact (aLoop_succ (skip0 K K fl cs cp i x hx (by omega) xb.1 b T c)).trans (E51.aLoop_cl (cl0 fl cs cp (i + 1) x))
            · rw [if_neg hl0,if_neg hl0]
              exact (aLoop_succ (skipR K K fl cs cp i l _ x hx (by omega) xb.1 b T c)).trans (E51.aLoop_cl (clR fl cs cp (i + 1) l _ x))
          rw [st]; exact I
        · rw [if_neg d]
          have r2:=bld_le f cs (i + 1) (lv + 1) (by omega)
          have C:=hK f (by omega) fl cs cp (i + 1) (lv + 1) hb (by omega) (by omega) (by omega)
          have B:BC K fl cs cp (i + 1) (lv + 1) (bld f cs (i + 1) (lv + 1)).1 (bld f cs (i + 1) (lv + 1)).2:=fun h => C K (by omega) 0 h
          obtain ⟨p,hp⟩:∃ p,bld f cs (i + 1) (lv + 1)=p:=⟨_,rfl⟩
          rw [hp] at r2 B ⊢
          have I:=ih (fun j hj => hK j (by omega)) (by omega) p.2 (l ++ [node x p.1]) k (by omega) (by rw [List.length_append,List.length_singleton]; omega) (by omega) (by omega)
          have st:Lp K (k + 1) (Sx fl cs cp i lv l)=Lp K k (Sx fl cs cp p.2 lv (l ++ [node x p.1])):=by
            unfold Sx
            rw [if_neg app_ne]
            by_cases hl0:l=[]
            · subst hl0; rw [if_pos rfl]
              exact aLoop_succ (node0 K K fl cs cp i lv x p.1 p.2 hx (by omega) xb.1 b T c (by omega) B)
            · rw [if_neg hl0,app_len hl0]
              exact aLoop_succ (nodeR K K fl cs cp i lv l _ x p.1 p.2 (by omega) hx (by omega) xb.1 b T c (by omega) B)
          rw [st]
          simp only [List.append_assoc,List.cons_append,List.nil_append] at I
          exact I
      · rw [if_neg c]
        have I:=ih (fun j hj => hK j (by omega)) (by omega) (i + 1) (l ++ [leaf x]) k (by omega) (by rw [List.length_append,List.length_singleton]; omega) (by omega) (by omega)
        have cf:(tg x).2.1=false:=by simpa using c
        have st:Lp K (k + 1) (Sx fl cs cp i lv l)=Lp K k (Sx fl cs cp (i + 1) lv (l ++ [leaf x])):=by
          unfold Sx
          rw [if_neg app_ne]
          by_cases hl0:l=[]
          · subst hl0; rw [if_pos rfl]
            exact aLoop_succ (leaf0 K K fl cs cp i lv x hx (by omega) xb.1 xb.2 b T cf)
          · rw [if_neg hl0,app_len hl0]
            exact aLoop_succ (leafR K K fl cs cp i lv l _ x (by omega) hx (by omega) xb.1 xb.2 b T cf)
        rw [st]
        simp only [List.append_assoc,List.cons_append,List.nil_append] at I
        exact I
theorem build:∀ f:Nat,Kn f:=by
  intro f
  induction f using Nat.strongRecOn with
  | ind f ih =>
    intro fl cs cp i lv hb hi l5 hf
    obtain ⟨K,hK⟩:∃ K,f + 199=K:=⟨_,rfl⟩
    have eK:f + 200=K + 1:=by omega
    rw [eK]
    have L:=loop K fl cs cp lv hb l5 f ih (by omega) i [] K hi (by simp; omega) hf (by omega)
    rw [Sx,if_pos rfl,List.nil_append] at L
    refine con_of E_fn81 (by simp [AV.pureL,AV.pure]) (Nat.le_of_ble_eq_true rfl) rfl rfl (g:=[]) ?_
    rw [body_81,c81]
    obtain ⟨out,ho⟩:∃ out,(bld f cs i lv).1=out:=⟨_,rfl⟩
    obtain ⟨j,hj⟩:∃ j,(bld f cs i lv).2=j:=⟨_,rfl⟩
    rw [ho,hj] at L ⊢
    have l1:=El.fl_len out
    have l2:=El.fl_keys out
    have l3:=El.fl_pure out
    have sx:=fun n h key => E32.sealX_fl n h key out none true false
    rcases L with L | L
    · rw [En1] at L
      by_cases o0:out=[]
      · subst o0
        rw [if_pos rfl] at L
        simp [Lp,bB,lp,lps,c81,firstReg] at L
        simp [-s_round,L,El.avs]
      · have e0:out.isEmpty=false:=by cases out with | nil => exact absurd rfl o0 | cons x r => rfl
        rw [if_neg o0] at L
        simp [Lp,bB,lp,lps,c81,firstReg] at L
        simp [-s_round,L,l1,l2,l3,sx,e0,o0]
    · rw [En2] at L
      by_cases o0:out=[]
      · subst o0
        rw [if_pos rfl] at L
        simp [Lp,bB,lp,lps,c81,firstReg] at L
        simp [-s_round,L,El.avs]
      · have e0:out.isEmpty=false:=by cases out with | nil => exact absurd rfl o0 | cons x r => rfl
        rw [if_neg o0] at L
        simp [Lp,bB,lp,lps,c81,firstReg] at L
        simp [-s_round,L,l1,l2,l3,sx,e0,o0]
end F4
end
end
