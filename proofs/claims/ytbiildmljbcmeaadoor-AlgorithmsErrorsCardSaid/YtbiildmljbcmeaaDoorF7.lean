/- Own work, no conditions. -/
import Derived.Test.YtbiildmljbcmeaaDoorF2
set_option maxRecDepth 20000
set_option linter.unusedSimpArgs false
set_option linter.unusedVariables false
set_option maxHeartbeats 16000000
section
open Ab Go TabE
attribute [local simp ↓] s_seq s_reg s_regd s_cond s_block s_cons s_consG s_regD
attribute [local simp] s_nil s_loop s_round s_lpn s_lpe s_lpr firstReg s_gt s_gf s_wb s_wu s_val s_valN s_skip s_calls s_callP s_cax lookR flatR pureKs s_ret s_rgx s_sqn s_sqr s_sqe s_cdb s_bkn s_bkr s_bke s_exit s_ret' s_skip' s_finr s_finn s_fin1 s_fix s_clean s_gc0 o_tmp o_int o_bool o_nil o_str o_fn o_nil' l_hit l_miss l_nil ol_nil ol_cons ol_some x_move x_assign x_pick pk_t pk_f x_bin bn_s x_un x_extract x_callF cl_no x_callB x_callBF frzV x_conv cvx convA frame0 binA intOp resL resA results1 sealLW AV.pure AV.pureL keepT x_alloc x_box bxx x_build bdx x_buildSlice bsx x_buildSliceF bsf x_load ldx x_store stx x_slice slx x_fieldAddr x_field x_index ixx x_indexAddr iax x_makeSlice msx x_makeSliceF msf x_nilCheck newK genOf setK lookK fillA writeL writeC readC conts TyI.mk1 sliceA boundsA boundsB fitsA numA indexAddrA fieldAddrA partA fieldA indexA appendA copyA builtinA AV.cells chunk gcH reach keysT keepK inKs AV.keys AV.keysL Ty.isAgg eq1 eqL convA.go ltI w_u8 w_u32 w_u64 w_i64 w_fdiv w_tdiv w_tmod IntKind.bits unA sc_int sc_bool sc_str sc_sl sc_ref sc_ptr sc_pel sc_nilp sc_fn sc_nilf sc_if sc_nili sc_agg sc_tup sc_mem bs_pure bs_kl bs_length bs_cells bs_all sl_row sealRow sealY sl_int sl_bool sl_str sl_sl sl_nilp sl_nilf sl_nili sl_pel sl_agg sl_tup sl_fn sl_if nat_1 bs_cons bs_nil i_beq i_bne x_mkF x_mkI x_tassert x_panic s_pan s_sqp s_bkp s_finp s_fixp s_lpp s_rgp s_retp s_site s_stxN s_stxO x_callT clx El.avs_len s_dyn0 s_rgy barOf dynChk footL dynOK disjK keysOp opVals Op.operands
section
open Ab Go TabE Sp F1 F2
namespace F3
abbrev BC (q:Nat) (fl:Bool) (cs:List Int) (cp:Option Nat) (i lv:Nat) (s:List El) (i':Nat):Prop:=∀ h,aCall E q 0 127 [.sl fl (bs cs) cp,.int .i64 (i:Int),.int .i64 (lv:Int)] h=some (.ret (.tup [.sl s.isEmpty (El.avs s) (if s.isEmpty then some 0 else none),.int .i64 (i':Int)]),h)
theorem node0 (q k1:Nat) (fl cs cp) (i lv:Nat) (x:Int) (s:List El) (i':Nat) (hx:cs[i]? = some x) (i40:i < 40) (x0:0 ≤ x) (hm:¬ x % 16=15) (T:TagC q x) (k:(tg x).2.1=true) (l5:lv < 5) (B:BC q fl cs cp (i + 1) (lv + 1) s i'):rnd fn127 bB q k1 (S0 fl cs cp i lv)=some (.normal,SR fl cs cp i' lv [node x s] 0):=by
  have hi:i < cs.length:=(List.getElem?_eq_some_iff.1 hx).1
  have ix:=E40.byte_at fl cp cs i x hx
  have w:=w64' ((i:Int) + 1) (by omega) (by omega)
  have w2:=w64' ((lv:Int) + 1) (by omega) (by omega)
  have i40':(i:Int) < 40:=by omega
  have l5':¬ (lv:Int)=5:=by omega
  have l6':¬ lv=5:=by omega
  have t1:Int.tmod x 16=x % 16:=Int.tmod_eq_emod_of_nonneg x0
  rw [node]
  have e1:((i + 1:Nat):Int)=(i:Int) + 1:=by omega
  have e2:((lv + 1:Nat):Int)=(lv:Int) + 1:=by omega
  unfold BC at B
  rw [e1,e2] at B
  simp [bB,lp,lps,c127,-indexAddrA,ix,w,w2,hi,i40,i40',t1,hm,T,k,l5',l6',B,El.fl_mk1]
theorem nodeR (q k1:Nat) (fl cs cp) (i lv:Nat) (l:List El) (g:Nat) (x:Int) (s:List El) (i':Nat) (hl:l.length ≤ 1000) (hx:cs[i]? = some x) (i40:i < 40) (x0:0 ≤ x) (hm:¬ x % 16=15) (T:TagC q x) (k:(tg x).2.1=true) (l5:lv < 5) (B:BC q fl cs cp (i + 1) (lv + 1) s i'):rnd fn127 bB q k1 (SR fl cs cp i lv l g)=some (.normal,SR fl cs cp i' lv (l ++ [node x s]) (g + 1)):=by
  have hi:i < cs.length:=(List.getElem?_eq_some_iff.1 hx).1
  have ix:=E40.byte_at fl cp cs i x hx
  have w:=w64' ((i:Int) + 1) (by omega) (by omega)
  have w2:=w64' ((lv:Int) + 1) (by omega) (by omega)
  have i40':(i:Int) < 40:=by omega
  have l5':¬ (lv:Int)=5:=by omega
  have l6':¬ lv=5:=by omega
  have t1:Int.tmod x 16=x % 16:=Int.tmod_eq_emod_of_nonneg x0
  rw [node]
  have e1:((i + 1:Nat):Int)=(i:Int) + 1:=by omega
  have e2:((lv + 1:Nat):Int)=(lv:Int) + 1:=by omega
  unfold BC at B
  rw [e1,e2] at B
  have cs5:(l.length + 1) * 56 ≤ 70368744177664:=by omega
  have f1:=El.fl_len l
  have f2:=El.fl_keys l
  have f3:(El.fl l).take (l.length * 5)=El.fl l:=by rw [El.fl_take,List.take_length]
  have f4:=El.fl_pure l
  have f5:=El.fl_scal l
  simp [bB,lp,lps,c127,-indexAddrA,ix,w,w2,hi,i40,i40',t1,hm,T,k,l5',l6',B,El.fl_mkS,f1,f2,f3,f4,f5,cs5,El.fl_keysr]
theorem lb_z (n:Nat):List.replicate n (AV.int .u8 0)=bs (List.replicate n 0):=by simp [bs]
theorem chk_z (n:Nat):chunk false 1 n (bs (List.replicate n 0))=bs (List.replicate n 0):=by
  have:=El.chk_bs (List.replicate n 0)
  simpa using this
theorem take_z (n:Nat):(bs (List.replicate n 0)).take n=bs (List.replicate n 0):=by
  rw [List.take_of_length_le]; rw [bs_len]; simp
theorem leaf_cases (x:Int) (h0:0 ≤ x) (h1:x < 256):((tg x).1=0 ∧ (tg x).2.2=1 ∧ leaf x=.mk 0 false 1 false [255] (some 1) true [] (some 0)) ∨ ((tg x).1=0 ∧ (tg x).2.2=2 ∧ leaf x=.mk 0 false 2 false [x / 8] (some 1) true [] (some 0)) ∨
    (¬ ((tg x).1=0 ∧ (tg x).2.2=1) ∧ ¬ ((tg x).1=0 ∧ (tg x).2.2=2) ∧ ∃ n:Nat,x * (x / 64)=n ∧ n ≤ 1000 ∧ leaf x=.mk (tg x).1 false (tg x).2.2 false (List.replicate n 0) (some n) true [] (some 0)):=by
  by_cases a:(tg x).1=0 ∧ (tg x).2.2=1
  · exact .inl ⟨a.1,a.2,by unfold leaf lb; rw [if_pos a,a.1,a.2]; rfl⟩
  by_cases b:(tg x).1=0 ∧ (tg x).2.2=2
  · exact .inr (.inl ⟨b.1,b.2,by unfold leaf lb; rw [if_neg a,if_pos b,b.1,b.2]; rfl⟩)
  · refine .inr (.inr ⟨a,b,?_⟩)
    have q:x / 64=0 ∨ x / 64=1 ∨ x / 64=2 ∨ x / 64=3:=by omega
    obtain ⟨n,hn⟩:∃ n:Nat,x * (x / 64)=n:=⟨(x * (x / 64)).toNat,(Int.toNat_of_nonneg (Int.mul_nonneg h0 (by omega))).symm⟩
    refine ⟨n,hn,by rcases q with q | q | q | q <;> rw [q] at hn <;> omega,?_⟩
    unfold leaf lb; rw [if_neg a,if_neg b,hn]; simp
theorem leaf0 (q k1:Nat) (fl cs cp) (i lv:Nat) (x:Int) (hx:cs[i]? = some x) (i40:i < 40) (x0:0 ≤ x) (x1:x < 256) (hm:¬ x % 16=15) (T:TagC q x) (k:(tg x).2.1=false):rnd fn127 bB q k1 (S0 fl cs cp i lv)=some (.normal,SR fl cs cp (i + 1) lv [leaf x] 0):=by
  have hi:i < cs.length:=(List.getElem?_eq_some_iff.1 hx).1
  have ix:=E40.byte_at fl cp cs i x hx
  have w:=w64' ((i:Int) + 1) (by omega) (by omega)
  have i40':(i:Int) < 40:=by omega
  have t1:Int.tmod x 16=x % 16:=Int.tmod_eq_emod_of_nonneg x0
  have t2:Int.tdiv x 8=x / 8:=Int.tdiv_eq_ediv_of_nonneg x0
  have t3:Int.tdiv x 64=x / 64:=Int.tdiv_eq_ediv_of_nonneg x0
  have w8:(x / 8) % 256=x / 8:=Int.emod_eq_of_lt (by omega) (by omega)
  have w9:(x / 64) % 256=x / 64:=Int.emod_eq_of_lt (by omega) (by omega)
  have w10:=w64' x (by omega) (by omega)
  have w11:=w64' (x / 64) (by omega) (by omega)
  rcases leaf_cases x x0 x1 with ⟨a,b,e⟩ | ⟨a,b,e⟩ | ⟨a,b,n,hn,nb,e⟩
  · rw [e]; simp [bB,lp,lps,c127,-indexAddrA,ix,w,hi,i40,i40',t1,hm,T,k,a,b,El.fl_mk1,El.avs]
  · rw [e]; simp [bB,lp,lps,c127,-indexAddrA,ix,w,hi,i40,i40',t1,hm,T,k,a,b,t2,w8,El.fl_mk1,El.avs]
  · have w12:=w64' (n:Int) (by omega) (by omega)
    have n1:(n:Int) ≤ 70368744177664:=by omega
    rw [e]
    by_cases a0:(tg x).1=0
    · have a1:¬ (tg x).2.2=1:=fun h => a ⟨a0,h⟩
      have b1:¬ (tg x).2.2=2:=fun h => b ⟨a0,h⟩
      simp [bB,lp,lps,c127,-indexAddrA,ix,w,hi,i40,i40',t1,hm,T,k,a0,a1,b1,t3,w9,w10,w11,w12,hn,n1,lb_z,chk_z,take_z,El.fl_mk1,El.avs]
    · simp [bB,lp,lps,c127,-indexAddrA,ix,w,hi,i40,i40',t1,hm,T,k,a0,t3,w9,w10,w11,w12,hn,n1,lb_z,chk_z,take_z,El.fl_mk1,El.avs]
theorem leafR (q k1:Nat) (fl cs cp) (i lv:Nat) (l:List El) (g:Nat) (x:Int) (hl:l.length ≤ 1000) (hx:cs[i]? = some x) (i40:i < 40) (x0:0 ≤ x) (x1:x < 256) (hm:¬ x % 16=15) (T:TagC q x) (k:(tg x).2.1=false):rnd fn127 bB q k1 (SR fl cs cp i lv l g)=some (.normal,SR fl cs cp (i + 1) lv (l ++ [leaf x]) (g + 1)):=by
  have hi:i < cs.length:=(List.getElem?_eq_some_iff.1 hx).1
  have ix:=E40.byte_at fl cp cs i x hx
  have w:=w64' ((i:Int) + 1) (by omega) (by omega)
  have i40':(i:Int) < 40:=by omega
  have t1:Int.tmod x 16=x % 16:=Int.tmod_eq_emod_of_nonneg x0
  have t2:Int.tdiv x 8=x / 8:=Int.tdiv_eq_ediv_of_nonneg x0
  have t3:Int.tdiv x 64=x / 64:=Int.tdiv_eq_ediv_of_nonneg x0
  have w8:(x / 8) % 256=x / 8:=Int.emod_eq_of_lt (by omega) (by omega)
  have w9:(x / 64) % 256=x / 64:=Int.emod_eq_of_lt (by omega) (by omega)
  have w10:=w64' x (by omega) (by omega)
  have w11:=w64' (x / 64) (by omega) (by omega)
  have cs5:(l.length + 1) * 56 ≤ 70368744177664:=by omega
  have f1:=El.fl_len l
  have f2:=El.fl_keys l
  have f3:(El.fl l).take (l.length * 5)=El.fl l:=by rw [El.fl_take,List.take_length]
  have f4:=El.fl_pure l
  have f5:=El.fl_scal l
  rcases leaf_cases x x0 x1 with ⟨a,b,e⟩ | ⟨a,b,e⟩ | ⟨a,b,n,hn,nb,e⟩
  · rw [e]; simp [bB,lp,lps,c127,-indexAddrA,ix,w,hi,i40,i40',t1,hm,T,k,a,b,El.fl_mkS,El.avs,f1,f2,f3,f4,f5,cs5,El.fl_keysr]
  · rw [e]; simp [bB,lp,lps,c127,-indexAddrA,ix,w,hi,i40,i40',t1,hm,T,k,a,b,t2,w8,El.fl_mkS,El.avs,f1,f2,f3,f4,f5,cs5,El.fl_keysr]
  · have w12:=w64' (n:Int) (by omega) (by omega)
    have n1:(n:Int) ≤ 70368744177664:=by omega
    rw [e]
    by_cases a0:(tg x).1=0
    · have a1:¬ (tg x).2.2=1:=fun h => a ⟨a0,h⟩
      have b1:¬ (tg x).2.2=2:=fun h => b ⟨a0,h⟩
      simp [bB,lp,lps,c127,-indexAddrA,ix,w,hi,i40,i40',t1,hm,T,k,a0,a1,b1,t3,w9,w10,w11,w12,hn,n1,lb_z,chk_z,take_z,El.fl_mkS,El.avs,f1,f2,f3,f4,f5,cs5,El.fl_keysr]
    · simp [bB,lp,lps,c127,-indexAddrA,ix,w,hi,i40,i40',t1,hm,T,k,a0,t3,w9,w10,w11,w12,hn,n1,lb_z,chk_z,take_z,El.fl_mkS,El.avs,f1,f2,f3,f4,f5,cs5,El.fl_keysr]
end F3
end
section
open Ab Go TabE Sp F1 F2 F3
namespace F4
def bld:Nat → List Int → Nat → Nat → List El × Nat
  | 0,_,i,_ => ([],i)
  | f + 1,cs,i,lv =>
    match cs[i]? with
    | none => ([],i)
    | some x =>
      if 40 ≤ i then ([],i)
      else if x % 16=15 then ([],i + 1)
      else if (tg x).2.1=true then
        (if lv=5 then bld f cs (i + 1) lv
        else (node x (bld f cs (i + 1) (lv + 1)).1 :: (bld f cs (bld f cs (i + 1) (lv + 1)).2 lv).1,(bld f cs (bld f cs (i + 1) (lv + 1)).2 lv).2))
      else (leaf x :: (bld f cs (i + 1) lv).1,(bld f cs (i + 1) lv).2)
theorem bld_le:∀ (f:Nat) (cs:List Int) (i lv:Nat),i ≤ 40 → i ≤ (bld f cs i lv).2 ∧ (bld f cs i lv).2 ≤ 40 ∧ (bld f cs i lv).1.length + i ≤ (bld f cs i lv).2
  | 0,cs,i,lv,h => by unfold bld; simp [h]
  | f + 1,cs,i,lv,h => by
    unfold bld
    cases cs[i]? with
    | none => simp [h]
    | some x =>
      simp only
      by_cases a:40 ≤ i
      · rw [if_pos a]; simp [h]
      rw [if_neg a]
      by_cases b:x % 16=15
      · rw [if_pos b]; simp; omega
      rw [if_neg b]
      have r1:=bld_le f cs (i + 1) lv (by omega)
      by_cases c:(tg x).2.1=true
      · rw [if_pos c]
        by_cases d:lv=5
        · rw [if_pos d]; omega
        · rw [if_neg d]
          have r2:=bld_le f cs (i + 1) (lv + 1) (by omega)
          have r3:=bld_le f cs (bld f cs (i + 1) (lv + 1)).2 lv r2.2.1
          simp only [List.length_cons]; omega
      · rw [if_neg c]; simp only [List.length_cons]; omega
abbrev Kn (f:Nat):Prop:=∀ (fl:Bool) (cs:List Int) (cp:Option Nat) (i lv:Nat),isB cs → i ≤ 40 → lv ≤ 5 → 41 - i ≤ f → Con E (f + 200) 127 [.sl fl (bs cs) cp,.int .i64 (i:Int),.int .i64 (lv:Int)] (.tup [.sl (bld f cs i lv).1.isEmpty (El.avs (bld f cs i lv).1) (if (bld f cs i lv).1.isEmpty then some 0 else none),.int .i64 ((bld f cs i lv).2:Int)])
abbrev Lp (K:Nat):=aLoop (aCode E (aCall E K) (dcall (aRun E K)) K 1 fn127 bB) (cleanS 1 ((firstReg bB).bind fn127.head))
def Sx (fl:Bool) (cs:List Int) (cp:Option Nat) (i lv:Nat) (l:List El):St:=if l=[] then S0 fl cs cp i lv else SR fl cs cp i lv l (l.length - 1)
def En1 (fl:Bool) (cs:List Int) (cp:Option Nat) (i lv:Nat) (l:List El):AExit × St:=if l=[] then (.exit 0,⟨[(0,.sl fl (bs cs) cp),(1,.int .i64 (i:Int)),(2,.int .i64 (lv:Int)),(8,.sl true [] (some 0)),(18,.bool false)],[]⟩) else (.exit 0,⟨[(0,.sl fl (bs cs) cp),(1,.int .i64 (i:Int)),(2,.int .i64 (lv:Int)),(8,.ref (1,84,l.length - 1) 0 l.length none),(18,.bool false)],[((1,84,l.length - 1),⟨El.fl l,true,true,false,5,true⟩)]⟩)
def En2 (i:Nat) (l:List El):AExit × St:=if l=[] then (.ret,⟨[(6,.sl true [] (some 0)),(7,.int .i64 (i:Int))],[]⟩) else (.ret,⟨[(6,.ref (1,84,l.length - 1) 0 l.length none),(7,.int .i64 (i:Int))],[((1,84,l.length - 1),⟨El.fl l,true,true,false,5,true⟩)]⟩)
theorem app_ne {l:List El} {x:El}:¬ (l ++ [x]=[]):=by simp
theorem app_len {l:List El} {x:El} (h:l ≠ []):(l ++ [x]).length - 1=l.length - 1 + 1:=by
  have:=List.length_pos_iff.2 h
  rw [List.length_append,List.length_singleton]; omega
theorem loop (K:Nat) (fl:Bool) (cs:List Int) (cp:Option Nat) (lv:Nat) (hb:isB cs) (l5:lv ≤ 5):∀ (f:Nat),(∀ j,j < f → Kn j) → f + 199 ≤ K → ∀ (i:Nat) (l:List El) (k:Nat),i ≤ 40 → l.length + (40 - i) ≤ 1000 → 41 - i ≤ f → 41 - i ≤ k →
    Lp K k (Sx fl cs cp i lv l)=some (En1 fl cs cp (bld f cs i lv).2 lv (l ++ (bld f cs i lv).1)) ∨ Lp K k (Sx fl cs cp i lv l)=some (En2 (bld f cs i lv).2 (l ++ (bld f cs i lv).1)):=by
  intro f
  induction f with
  | zero => intro _ _ i l k _ _ h; omega
  | succ f ih =>
    intro hK hf i l k hi hl h1 h2
    obtain ⟨k,rfl⟩:∃ j,k=j + 1:=⟨k - 1,by omega⟩
    have ends:cs.length ≤ i ∨ 40 ≤ i → Lp K (k + 1) (Sx fl cs cp i lv l)=some (En1 fl cs cp i lv (l ++ [])):=fun h => by
      unfold Sx En1
      rw [List.append_nil]
      by_cases hl0:l=[]
      · rw [if_pos hl0,if_pos hl0]; exact aLoop_end (last0 K K fl cs cp i lv h) (by simp)
      · rw [if_neg hl0,if_neg hl0]; exact aLoop_end (lastR K K fl cs cp i lv l _ h) (by simp)
    unfold bld
    cases hx:cs[i]? with
    | none => exact .inl (ends (.inl (List.getElem?_eq_none_iff.1 hx)))
    | some x =>
      simp only
      by_cases a:40 ≤ i
      · rw [if_pos a]; exact .inl (ends (.inr a))
      rw [if_neg a]
      have xb:=hb x (List.mem_of_getElem? hx)
      have T:TagC K x:=fun h => F1.tag x xb.1 xb.2 K (by omega) 0 h
      by_cases b:x % 16=15
      · rw [if_pos b]
        refine .inr ?_
        unfold Sx En2
        simp only [List.append_nil]
        by_cases hl0:l=[]
        · rw [if_pos hl0,if_pos hl0]; exact aLoop_end (end0 K K fl cs cp i lv x hx (by omega) xb.1 b) (by simp)
        · rw [if_neg hl0,if_neg hl0]; exact aLoop_end (endR K K fl cs cp i lv l _ x hx (by omega) xb.1 b) (by simp)
      rw [if_neg b]
      by_cases c:(tg x).2.1=true
      · rw [if_pos c]
        by_cases d:lv=5
        · rw [if_pos d]
          subst d
          have I:=ih (fun j hj => hK j (by omega)) (by omega) (i + 1) l k (by omega) (by omega) (by omega) (by omega)
          have st:Lp K (k + 1) (Sx fl cs cp i 5 l)=Lp K k (Sx fl cs cp (i + 1) 5 l):=by
            unfold Sx
            by_cases hl0:l=[]
            · rw [if_pos hl0,if_pos hl0]
              exact (aLoop_succ (skip0 K K fl cs cp i x hx (by omega) xb.1 b T c)).trans (E51.aLoop_cl (cl0 fl cs cp (i + 1) x))
            · rw [if_neg hl0,if_neg hl0]
              exact (aLoop_succ (skipR K K fl cs cp i l _ x hx (by omega) xb.1 b T c)).trans (E51.aLoop_cl (clR fl cs cp (i + 1) l _ x))
          rw [st]; exact I
        · rw [if_neg d]
          have r2:=bld_le f cs (i + 1) (lv + 1) (by omega)
          have C:=hK f (by omega) fl cs cp (i + 1) (lv + 1) hb (by omega) (by omega) (by omega)
          have B:BC K fl cs cp (i + 1) (lv + 1) (bld f cs (i + 1) (lv + 1)).1 (bld f cs (i + 1) (lv + 1)).2:=fun h => C K (by omega) 0 h
          obtain ⟨p,hp⟩:∃ p,bld f cs (i + 1) (lv + 1)=p:=⟨_,rfl⟩
          rw [hp] at r2 B ⊢
          have I:=ih (fun j hj => hK j (by omega)) (by omega) p.2 (l ++ [node x p.1]) k (by omega) (by rw [List.length_append,List.length_singleton]; omega) (by omega) (by omega)
          have st:Lp K (k + 1) (Sx fl cs cp i lv l)=Lp K k (Sx fl cs cp p.2 lv (l ++ [node x p.1])):=by
            unfold Sx
            rw [if_neg app_ne]
            by_cases hl0:l=[]
            · subst hl0; rw [if_pos rfl]
              exact aLoop_succ (node0 K K fl cs cp i lv x p.1 p.2 hx (by omega) xb.1 b T c (by omega) B)
            · rw [if_neg hl0,app_len hl0]
              exact aLoop_succ (nodeR K K fl cs cp i lv l _ x p.1 p.2 (by omega) hx (by omega) xb.1 b T c (by omega) B)
          rw [st]
          simp only [List.append_assoc,List.cons_append,List.nil_append] at I
          exact I
      · rw [if_neg c]
        have I:=ih (fun j hj => hK j (by omega)) (by omega) (i + 1) (l ++ [leaf x]) k (by omega) (by rw [List.length_append,List.length_singleton]; omega) (by omega) (by omega)
        have cf:(tg x).2.1=false:=by simpa using c
        have st:Lp K (k + 1) (Sx fl cs cp i lv l)=Lp K k (Sx fl cs cp (i + 1) lv (l ++ [leaf x])):=by
          unfold Sx
          rw [if_neg app_ne]
          by_cases hl0:l=[]
          · subst hl0; rw [if_pos rfl]
            exact aLoop_succ (leaf0 K K fl cs cp i lv x hx (by omega) xb.1 xb.2 b T cf)
          · rw [if_neg hl0,app_len hl0]
            exact aLoop_succ (leafR K K fl cs cp i lv l _ x (by omega) hx (by omega) xb.1 xb.2 b T cf)
        rw [st]
        simp only [List.append_assoc,List.cons_append,List.nil_append] at I
        exact I
theorem build:∀ f:Nat,Kn f:=by
  intro f
  induction f using Nat.strongRecOn with
  | ind f ih =>
    intro fl cs cp i lv hb hi l5 hf
    obtain ⟨K,hK⟩:∃ K,f + 199=K:=⟨_,rfl⟩
    have eK:f + 200=K + 1:=by omega
    rw [eK]
    have L:=loop K fl cs cp lv hb l5 f ih (by omega) i [] K hi (by simp; omega) hf (by omega)
    rw [Sx,if_pos rfl,List.nil_append] at L
    refine con_of E_fn127 (by simp [AV.pureL,AV.pure]) (Nat.le_of_ble_eq_true rfl) rfl rfl (g:=[]) ?_
    rw [body_127,c127]
    obtain ⟨out,ho⟩:∃ out,(bld f cs i lv).1=out:=⟨_,rfl⟩
    obtain ⟨j,hj⟩:∃ j,(bld f cs i lv).2=j:=⟨_,rfl⟩
    rw [ho,hj] at L ⊢
    have l1:=El.fl_len out
    have l2:=El.fl_keys out
    have l3:=El.fl_pure out
    have sx:=fun n h key => E32.sealX_fl n h key out none true false
    rcases L with L | L
    · rw [En1] at L
      by_cases o0:out=[]
      · subst o0
        rw [if_pos rfl] at L
        simp [Lp,bB,lp,lps,c127,firstReg] at L
        simp [-s_round,L,El.avs]
      · have e0:out.isEmpty=false:=by cases out with | nil => exact absurd rfl o0 | cons x r => rfl
        rw [if_neg o0] at L
        simp [Lp,bB,lp,lps,c127,firstReg] at L
        simp [-s_round,L,l1,l2,l3,sx,e0,o0]
    · rw [En2] at L
      by_cases o0:out=[]
      · subst o0
        rw [if_pos rfl] at L
        simp [Lp,bB,lp,lps,c127,firstReg] at L
        simp [-s_round,L,El.avs]
      · have e0:out.isEmpty=false:=by cases out with | nil => exact absurd rfl o0 | cons x r => rfl
        rw [if_neg o0] at L
        simp [Lp,bB,lp,lps,c127,firstReg] at L
        simp [-s_round,L,l1,l2,l3,sx,e0,o0]
end F4
end
end
section
open Ab Go TabE
attribute [local simp ↓] s_seq s_reg s_regd s_cond s_block s_cons s_consG s_regD
attribute [local simp] s_nil s_loop s_round s_lpn s_lpe s_lpr firstReg s_gt s_gf s_wb s_wu s_val s_valN s_skip s_calls s_callP s_cax lookR flatR pureKs s_ret s_rgx s_sqn s_sqr s_sqe s_cdb s_bkn s_bkr s_bke s_exit s_ret' s_skip' s_finr s_finn s_fin1 s_fix s_clean s_gc0 o_tmp o_int o_bool o_nil o_str o_fn o_nil' l_hit l_miss l_nil ol_nil ol_cons ol_some x_move x_assign x_pick pk_t pk_f x_bin bn_s x_un x_extract x_callF cl_no x_callB x_callBF frzV x_conv cvx convA frame0 binA intOp resL resA results1 sealLW AV.pure AV.pureL keepT x_alloc x_box bxx x_build bdx x_buildSlice bsx x_buildSliceF bsf x_load ldx x_store stx x_slice slx x_fieldAddr x_field x_index ixx x_indexAddr iax x_makeSlice msx x_makeSliceF msf x_nilCheck newK genOf setK lookK fillA writeL writeC readC conts TyI.mk1 sliceA boundsA boundsB fitsA numA indexAddrA fieldAddrA partA fieldA indexA appendA copyA builtinA AV.cells chunk gcH reach keysT keepK inKs AV.keys AV.keysL Ty.isAgg eq1 eqL convA.go ltI w_u8 w_u32 w_u64 w_i64 w_fdiv w_tdiv w_tmod IntKind.bits unA sc_int sc_bool sc_str sc_sl sc_ref sc_ptr sc_pel sc_nilp sc_fn sc_nilf sc_if sc_nili sc_agg sc_tup sc_mem bs_pure bs_kl bs_length bs_cells bs_all sl_row sealRow sealY sl_int sl_bool sl_str sl_sl sl_nilp sl_nilf sl_nili sl_pel sl_agg sl_tup sl_fn sl_if nat_1 bs_cons bs_nil i_beq i_bne x_mkF x_mkI x_tassert x_panic s_pan s_sqp s_bkp s_finp s_fixp s_lpp s_rgp s_retp s_site s_stxN s_stxO x_callT clx El.avs_len s_dyn0 s_rgy barOf dynChk footL dynOK disjK keysOp opVals Op.operands sealA AV.scal
section
open Ab Go TabE Sp E34 F1
namespace F5
abbrev fF (p:List Int) (e:Int):AV:=.agg [.sl p.isEmpty (ns p) (some p.length),.int .i64 e]
abbrev fR (p:List Int) (e:Int):AV:=.agg [.sl p.isEmpty (ns p) (if p.isEmpty then some 0 else none),.int .i64 e]
theorem clipI (f:Bool) (xs:List AV) (c:Option Nat) (hp:AV.pureL xs=true):Con E 5 113 [.sl f xs c] (.sl f xs (some xs.length)):=by
  refine .of (g:=[]) (by simp [AV.pureL,AV.pure]) ?_
  rw [aCall_fn rfl E_fn113 (by simp [AV.pureL,AV.pure]) (Nat.le_of_ble_eq_true rfl) rfl rfl,body_113,c113]
  simp [hp]
theorem fnil (e:Int):Con E 10 114 [.int .i64 e,.sl true [] (some 0)] (fF [] e):=by
  have c:=clipI true [] (some 0) rfl 9 (by omega) 0
  refine con_of E_fn114 rfl (Nat.le_of_ble_eq_true rfl) rfl rfl (g:=[]) ?_
  rw [body_114,c114]
  try simp at c
  simp [c]
theorem fone (e x:Int) (c:Option Nat):Con E 10 114 [.int .i64 e,.sl false [.int .i64 x] c] (fF [x] e):=by
  have c:=clipI false [.int .i64 x] c rfl 9 (by omega) 0
  refine con_of E_fn114 rfl (Nat.le_of_ble_eq_true rfl) rfl rfl (g:=[]) ?_
  rw [body_114,c114]
  try simp at c
  simp [c]
theorem rnil (e x:Int) (h:x < 0):Con E 10 35 [.int .i64 e,.int .i64 x] (fR [] e):=by
  have h':¬ 0 ≤ x:=by omega
  refine con_of E_fn35 rfl (Nat.le_of_ble_eq_true rfl) rfl rfl (g:=[]) ?_
  rw [body_35,c35]
  simp [h,h']
theorem rone (e x:Int) (h:0 ≤ x):Con E 10 35 [.int .i64 e,.int .i64 x] (fR [x] e):=by
  refine con_of E_fn35 rfl (Nat.le_of_ble_eq_true rfl) rfl rfl (g:=[]) ?_
  rw [body_35,c35]
  simp [h]
end F5
end
end
section
open Ab Go TabE Sp E34 F1
namespace Rw
def row {α:Type} (f:α → List AV) (l:List α):List AV:=l.flatMap f
variable {α:Type} {f:α → List AV} {n:Nat}
end Rw
namespace F6
open Rw
structure Fld where
  c:Int
  k:Bool
  n:Int
  any:Bool
  opt:Bool
def Fld.cells (x:Fld):List AV:=[.int .u8 x.c,.bool x.k,.int .u32 x.n,.bool x.any,.bool x.opt]
abbrev Fld.av (x:Fld):AV:=.agg x.cells
structure Fa where
  t:Int
  m:Int
def Fa.av (x:Fa):AV:=.agg [.int .u8 x.t,.int .u8 x.m]
def Fa.ok (x:Fa):Prop:=(0 ≤ x.t ∧ x.t < 256) ∧ (0 ≤ x.m ∧ x.m < 256)
abbrev S0 (f:Bool) (c:Option Nat) (l:List Fa) (i:Nat):St:=⟨[(0,.sl f (l.map Fa.av) c),(3,.sl true [] (some 0)),(4,.int .i64 (i:Int))],[]⟩
end F6
end
section
open Ab Go TabE
attribute [local simp ↓] s_seq s_reg s_regd s_cond s_block s_cons s_consG s_regD
attribute [local simp] s_nil s_loop s_round s_lpn s_lpe s_lpr firstReg s_gt s_gf s_wb s_wu s_val s_valN s_skip s_calls s_callP s_cax lookR flatR pureKs s_ret s_rgx s_sqn s_sqr s_sqe s_cdb s_bkn s_bkr s_bke s_exit s_ret' s_skip' s_finr s_finn s_fin1 s_fix s_clean s_gc0 o_tmp o_int o_bool o_nil o_str o_fn o_nil' l_hit l_miss l_nil ol_nil ol_cons ol_some x_move x_assign x_pick pk_t pk_f x_bin bn_s x_un x_extract x_callF cl_no x_callB x_callBF frzV x_conv cvx convA frame0 binA intOp resL resA results1 sealLW AV.pure AV.pureL keepT x_alloc x_box bxx x_build bdx x_buildSlice bsx x_buildSliceF bsf x_load ldx x_store stx x_slice slx x_fieldAddr x_field x_index ixx x_indexAddr iax x_makeSlice msx x_makeSliceF msf x_nilCheck newK genOf setK lookK fillA writeL writeC readC conts TyI.mk1 sliceA boundsA boundsB fitsA numA indexAddrA fieldAddrA partA fieldA indexA appendA copyA builtinA AV.cells chunk gcH reach keysT keepK inKs AV.keys AV.keysL Ty.isAgg eq1 eqL convA.go ltI w_u8 w_u32 w_u64 w_i64 w_fdiv w_tdiv w_tmod IntKind.bits unA sc_int sc_bool sc_str sc_sl sc_ref sc_ptr sc_pel sc_nilp sc_fn sc_nilf sc_if sc_nili sc_agg sc_tup sc_mem bs_pure bs_kl bs_length bs_cells bs_all sl_row sealRow sealY sl_int sl_bool sl_str sl_sl sl_nilp sl_nilf sl_nili sl_pel sl_agg sl_tup sl_fn sl_if nat_1 bs_cons bs_nil i_beq i_bne x_mkF x_mkI x_tassert x_panic s_pan s_sqp s_bkp s_finp s_fixp s_lpp s_rgp s_retp s_site s_stxN s_stxO x_callT clx El.avs_len s_dyn0 s_rgy barOf dynChk footL dynOK disjK keysOp opVals Op.operands
section
open Ab Go TabE Sp E34 F1 Rw F5 F6
namespace F7
def mt (x:Fld) (y:El):Bool:=x.any || (decide (x.c=y.c) && (decide (x.k=y.k) && decide (x.n=y.n)))
theorem matches_ (x:Fld) (y:El):Con E 10 115 [x.av,y.av] (.bool (mt x y)):=by
  refine con_of E_fn115 (by simp [AV.pureL,AV.pure,El.av_pure,Fld.cells]) (Nat.le_of_ble_eq_true rfl) rfl rfl (g:=[]) ?_
  rw [body_115,c115]
  unfold mt
  cases ha:x.any
  · by_cases a:x.c=y.c <;> by_cases b:x.k=y.k <;> by_cases c:x.n=y.n <;> simp [El.av_eq,Fld.cells,ha,a,b,c,fitZ]
  · simp [El.av_eq,Fld.cells,ha,fitZ]
def sqr (s:List El):List Fld → Nat → List Int → (List Int × Nat) ⊕ (Int × List Int)
  | [],j,o => .inl (o,j)
  | x :: r,j,o => match s[j]? with
    | some y => if mt x y=true then sqr s r (j + 1) (o ++ [(j:Int)]) else if x.opt=true then sqr s r j (o ++ [-1]) else .inr (9,[(j:Int)])
    | none => if x.opt=true then sqr s r j (o ++ [-1]) else .inr (7,[])
theorem fd_at (f c) (l:List Fld) (i:Nat) (x:Fld) (h:l[i]? = some x):∀ hp,indexAddrA E 76 (.sl f (l.map Fld.av) c) (.int .i64 i) hp=some (.pel [.int .u8 x.c,.bool x.k,.int .u32 x.n,.bool x.any,.bool x.opt]):=by
  intro hp
  have hi:i < l.length:=(List.getElem?_eq_some_iff.1 h).1
  unfold indexAddrA
  simp only [E_ty76,E_ty75]
  rw [if_pos ⟨by omega,by rw [List.length_map]; omega⟩]
  simp only [Int.toNat_natCast,List.getElem?_map,h,Option.map_some]
  rfl
def zr (z:Nat):List AV:=List.replicate z (.int .i64 0)
theorem zr_eq (z:Nat):List.replicate z (AV.int .i64 0)=zr z:=rfl
theorem zr_len (z:Nat):(zr z).length=z:=List.length_replicate
theorem zr_ns (z:Nat):zr z=ns (List.replicate z 0):=by simp [zr,ns]
theorem zr_pure (z:Nat):AV.pureL (zr z)=true:=by rw [zr_ns]; exact ns_pure _
theorem zr_keys (z:Nat):AV.keysL (zr z)=[]:=AV.keysL_pure _ (zr_pure z)
abbrev rw_ (o:List Int) (z:Nat):AObj:=⟨ns o ++ zr z,true,true,true,1,false⟩
theorem rw_keys (o z):AV.keysL (ns o ++ zr z)=[]:=by rw [El.keysL_app,ns_keys,zr_keys]; rfl
theorem rw_len (o z):(ns o ++ zr z).length=o.length + z:=by rw [List.length_append,ns_len,zr_len]
theorem rw_take (o:List Int) (z):(ns o ++ zr z).take o.length=ns o:=by rw [← ns_len o,List.take_left']; rfl
theorem rw_drop (o:List Int) (z):(ns o ++ zr (z + 1)).drop (o.length + 1)=zr z:=by
  have:(ns o ++ zr (z + 1)).drop (o.length + 1)=((ns o ++ zr (z + 1)).drop (ns o).length).drop 1:=by rw [List.drop_drop,ns_len]
  rw [this,List.drop_left']; rfl
  rfl
def b45:Code:=lp c69 0
abbrev S (f:Bool) (c:Option Nat) (l:List Fld) (e:El) (i j:Nat) (o:List Int) (z:Nat):St:=⟨[(3,.ptr (1,3,0) 0),(7,.ptr (1,7,0) 0),(8,.int .i64 (j:Int)),(9,.ref (1,26,0) 0 o.length (some l.length)),(27,.sl f (l.map Fld.av) c),(28,.int .i64 (l.length:Int)),(29,.int .i64 (i:Int))],[((1,3,0),bx (ec e)),((1,7,0),bx [.sl true [] (some 0),.int .i64 0]),((1,26,0),rw_ o z)]⟩
abbrev MC (q:Nat) (x:Fld) (y:El):Prop:=∀ h,aCall E q 0 115 [x.av,y.av] h=some (.ret (.bool (mt x y)),h)
abbrev Bad (p:List Int) (e:Int):Option (AExit × St):=some (.ret,⟨[(6,.sl true [] (some 0)),(7,.ptr (1,7,0) 0)],[((1,7,0),bx [.sl p.isEmpty (ns p) (some p.length),.int .i64 e])]⟩)
theorem hit (q k1:Nat) (f c) (l:List Fld) (e y:El) (i j:Nat) (o:List Int) (z:Nat) (x:Fld) (hx:l[i]? = some x) (hy:e.s[j]? = some y) (ll:l.length ≤ 1000) (hz:o.length + (z + 1)=l.length) (ls:e.s.length ≤ 9223372036854775807) (M:MC q x y) (m:mt x y=true) :
    rndO fn69 b45 q k1 (S f c l e i j o (z + 1))=some (.normal,S f c l e (i + 1) (j + 1) (o ++ [(j:Int)]) z):=by
  have hi:i < l.length:=(List.getElem?_eq_some_iff.1 hx).1
  have hj:j < e.s.length:=(List.getElem?_eq_some_iff.1 hy).1
  have ix:=fd_at f c l i x hx
  have iy:=fun hp => El.at_ e.fs e.cs e.s j y hy hp
  have w:=w64' ((i:Int) + 1) (by omega) (by omega)
  have w2:=w64' ((j:Int) + 1) (by omega) (by omega)
  rw [MC,El.av_eq,Fld.av,Fld.cells,m] at M
  have fit:o.length + 1 ≤ l.length:=by omega
  have fit2:o.length ≤ l.length:=by omega
  have k0:=rw_keys o (z + 1)
  have k1':=rw_keys (o ++ [(j:Int)]) z
  have e1:ns (o ++ [(j:Int)])=ns o ++ [.int .i64 (j:Int)]:=ns_app _ _
  rw [e1] at k1'
  simp at k1'
  simp [b45,lp,lps,c69,-indexAddrA,ix,iy,w,w2,hi,hj,M,fit,fit2,k0,k1',e1,rw_len,rw_take,rw_drop,zr_len,hz]
theorem opt (q k1:Nat) (f c) (l:List Fld) (e:El) (i j:Nat) (o:List Int) (z:Nat) (x:Fld) (hx:l[i]? = some x) (ll:l.length ≤ 1000) (hz:o.length + (z + 1)=l.length) (ls:e.s.length ≤ 9223372036854775807) (M:∀ y,e.s[j]? = some y → MC q x y ∧ mt x y=false) (ho:x.opt=true) :
    rndO fn69 b45 q k1 (S f c l e i j o (z + 1))=some (.normal,S f c l e (i + 1) j (o ++ [-1]) z):=by
  have hi:i < l.length:=(List.getElem?_eq_some_iff.1 hx).1
  have ix:=fd_at f c l i x hx
  have w:=w64' ((i:Int) + 1) (by omega) (by omega)
  have fit:o.length + 1 ≤ l.length:=by omega
  have fit2:o.length ≤ l.length:=by omega
  have k0:=rw_keys o (z + 1)
  have k1':=rw_keys (o ++ [-1]) z
  have e1:ns (o ++ [-1])=ns o ++ [.int .i64 (-1)]:=ns_app _ _
  rw [e1] at k1'
  simp at k1'
  cases hy:e.s[j]? with
  | none =>
    have hj:=List.getElem?_eq_none_iff.1 hy
    have hj':¬ j < e.s.length:=by omega
    simp [b45,lp,lps,c69,-indexAddrA,ix,w,hi,hj',ho,fit,fit2,k0,k1',e1,rw_len,rw_take,rw_drop,zr_len,hz]
  | some y =>
    have hj:j < e.s.length:=(List.getElem?_eq_some_iff.1 hy).1
    have iy:=fun hp => El.at_ e.fs e.cs e.s j y hy hp
    obtain ⟨M,m⟩:=M y hy
    rw [MC,El.av_eq,Fld.av,Fld.cells,m,ho] at M
    simp [b45,lp,lps,c69,-indexAddrA,ix,iy,w,hi,hj,M,ho,fit,fit2,k0,k1',e1,rw_len,rw_take,rw_drop,zr_len,hz]
theorem short (q k1:Nat) (f c) (l:List Fld) (e:El) (i:Nat) (o:List Int) (z:Nat) (x:Fld) (hx:l[i]? = some x) (ll:l.length ≤ 1000) (ho:x.opt=false) (F:∀ h,aCall E q 0 114 [.int .i64 7,.sl true [] (some 0)] h=some (.ret (fF [] 7),h)) :
    rndO fn69 b45 q k1 (S f c l e i e.s.length o z)=Bad [] 7:=by
  have hi:i < l.length:=(List.getElem?_eq_some_iff.1 hx).1
  have ix:=fd_at f c l i x hx
  have k0:=rw_keys o z
  simp [fF] at F
  simp [b45,lp,lps,c69,-indexAddrA,ix,hi,ho,k0,F]
theorem wrong (q k1:Nat) (f c) (l:List Fld) (e y:El) (i j:Nat) (o:List Int) (z:Nat) (x:Fld) (hx:l[i]? = some x) (hy:e.s[j]? = some y) (ll:l.length ≤ 1000) (ls:e.s.length ≤ 9223372036854775807) (M:MC q x y) (m:mt x y=false) (ho:x.opt=false) (F:∀ h,aCall E q 0 114 [.int .i64 9,.sl false [.int .i64 (j:Int)] (some 1)] h=some (.ret (fF [(j:Int)] 9),h)) :
    rndO fn69 b45 q k1 (S f c l e i j o z)=Bad [(j:Int)] 9:=by
  have hi:i < l.length:=(List.getElem?_eq_some_iff.1 hx).1
  have hj:j < e.s.length:=(List.getElem?_eq_some_iff.1 hy).1
  have hj2:¬ j=e.s.length:=by omega
  have hj3:¬ (j:Int)=e.s.length:=by omega
  have ix:=fd_at f c l i x hx
  have iy:=fun hp => El.at_ e.fs e.cs e.s j y hy hp
  have k0:=rw_keys o z
  rw [MC,El.av_eq,Fld.av,Fld.cells,m,ho] at M
  simp [fF] at F
  simp [b45,lp,lps,c69,-indexAddrA,ix,iy,hi,hj,hj2,hj3,ho,k0,F,M]
theorem last (q k1:Nat) (f c) (l:List Fld) (e:El) (j:Nat) (o:List Int) (z:Nat):rndO fn69 b45 q k1 (S f c l e l.length j o z)=some (.exit 1,⟨(S f c l e l.length j o z).t ++ [(30,.bool false)],(S f c l e l.length j o z).h⟩):=by
  have k0:=rw_keys o z
  simp [b45,lp,lps,c69,k0]
end F7
end
end
