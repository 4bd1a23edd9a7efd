/- Own work, no conditions. -/
import Derived.Test.YtbiildmljbcmeaaDoorE40
set_option maxRecDepth 20000
set_option linter.unusedSimpArgs false
set_option linter.unusedVariables false
set_option maxHeartbeats 16000000
section
open Ab Go TabE Sp E40
namespace Sp
def gl:List Int → Int × Int × Int
  | [] => (0,0,7)
  | x :: r => if x ≤ 127 then (x,1,0)
    else if x=128 ∨ 131 < x then (0,0,10)
    else if x=129 then (match r with
      | y :: _ => if y ≤ 127 then (0,0,10) else (y,2,0)
      | _ => (0,0,7))
    else if x=130 then (match r with
      | y :: z :: _ => if y=0 then (0,0,10) else (256 * y + z,3,0)
      | _ => (0,0,7))
    else (match r with
      | y :: z :: u :: _ => if y=0 then (0,0,10) else (256 * (256 * y + z) + u,4,0)
      | _ => (0,0,7))
theorem gl_cons (x:Int) (r:List Int):gl (x :: r)=((if x ≤ 127 then (x,1,0)
    else if x=128 ∨ 131 < x then (0,0,10)
    else if x=129 then (match r with
      | y :: _ => if y ≤ 127 then (0,0,10) else (y,2,0)
      | _ => (0,0,7))
    else if x=130 then (match r with
      | y :: z :: _ => if y=0 then (0,0,10) else (256 * y + z,3,0)
      | _ => (0,0,7))
    else (match r with
      | y :: z :: u :: _ => if y=0 then (0,0,10) else (256 * (256 * y + z) + u,4,0)
      | _ => (0,0,7)):Int × Int × Int)):=rfl
theorem gl_back (xs:List Int) (hb:isB xs) (n s:Int) (h:gl xs=(n,s,0)):∃ r,xs=lenO n ++ r ∧ s=((lenO n).length:Int) ∧ 0 ≤ n ∧ n ≤ 16777215:=by
  have nz:∀ {a b c d:Int} {P:Prop},((0,0,c):Int × Int × Int)=(a,b,0) → c ≠ 0 → P:=by
    intro a b c d P h hc; simp at h; exact absurd h.2.2 hc
  cases xs with
  | nil => simp [gl] at h
  | cons x r =>
    have hx:=hb x (by simp)
    rw [gl_cons] at h
    by_cases a:x ≤ 127
    · rw [if_pos a] at h
      simp at h
      obtain ⟨rfl,rfl⟩:=h
      exact ⟨r,by unfold lenO; rw [if_pos a]; rfl,by unfold lenO; rw [if_pos a]; rfl,hx.1,by omega⟩
    rw [if_neg a] at h
    by_cases b:x=128 ∨ 131 < x
    · rw [if_pos b] at h; simp at h
    rw [if_neg b] at h
    by_cases c:x=129
    · subst c
      rw [if_pos rfl] at h
      cases r with
      | nil => simp at h
      | cons y r =>
        have hy:=hb y (by simp)
        simp only at h
        by_cases d:y ≤ 127
        · rw [if_pos d] at h; simp at h
        rw [if_neg d] at h
        simp at h
        obtain ⟨rfl,rfl⟩:=h
        have e:lenO y=[129,y]:=by unfold lenO; rw [if_neg d,if_pos (by omega)]
        exact ⟨r,by rw [e]; rfl,by rw [e]; rfl,hy.1,by omega⟩
    rw [if_neg c] at h
    by_cases d:x=130
    · subst d
      rw [if_pos rfl] at h
      match r,h,hb with
      | [],h,hb => simp at h
      | [y],h,hb => simp at h
      | y :: z :: r,h,hb =>
        have hy:=hb y (by simp)
        have hz:=hb z (by simp)
        simp only at h
        by_cases q:y=0
        · rw [if_pos q] at h; simp at h
        rw [if_neg q] at h
        simp at h
        obtain ⟨rfl,rfl⟩:=h
        have e:lenO (256 * y + z)=[130,y,z]:=by
          unfold lenO; rw [if_neg (by omega),if_neg (by omega),if_pos (by omega)]
          have e1:(256 * y + z) / 256=y:=by omega
          have e2:(256 * y + z) % 256=z:=by omega
          rw [e1,e2]
        exact ⟨r,by rw [e]; rfl,by rw [e]; rfl,by omega,by omega⟩
    rw [if_neg d] at h
    match r,h,hb with
    | [],h,hb => simp at h
    | [y],h,hb => simp at h
    | [y,z],h,hb => simp at h
    | y :: z :: u :: r,h,hb =>
      have hy:=hb y (by simp)
      have hz:=hb z (by simp)
      have hu:=hb u (by simp)
      simp only at h
      by_cases q:y=0
      · rw [if_pos q] at h; simp at h
      rw [if_neg q] at h
      simp at h
      obtain ⟨rfl,rfl⟩:=h
      have e:lenO (256 * (256 * y + z) + u)=[131,y,z,u]:=by
        unfold lenO; rw [if_neg (by omega),if_neg (by omega),if_neg (by omega)]
        have e1:(256 * (256 * y + z) + u) / 65536=y:=by omega
        have e2:(256 * (256 * y + z) + u) / 256 % 256=z:=by omega
        have e3:(256 * (256 * y + z) + u) % 256=u:=by omega
        rw [e1,e2,e3]
      exact ⟨r, by rw [e]; obtain rfl : x = 131 := by omega
                   rfl,by rw [e]; rfl,by omega,by omega⟩
theorem gl_n (xs:List Int) (h:(gl xs).2.2 ≠ 0):gl xs=(0,0,(gl xs).2.2):=by
  cases xs with
  | nil => rfl
  | cons x r =>
    rw [gl_cons] at h ⊢
    by_cases a:x ≤ 127
    · rw [if_pos a] at h; exact absurd rfl h
    rw [if_neg a] at h ⊢
    by_cases b:x=128 ∨ 131 < x
    · rw [if_pos b]
    rw [if_neg b] at h ⊢
    by_cases c:x=129
    · rw [if_pos c] at h ⊢
      split
      · rename_i y _
        simp only at h
        by_cases d:y ≤ 127
        · rw [if_pos d]
        · rw [if_neg d] at h; exact absurd rfl h
      · rfl
    rw [if_neg c] at h ⊢
    by_cases d:x=130
    · rw [if_pos d] at h ⊢
      split
      · rename_i y z _
        simp only at h
        by_cases d:y=0
        · rw [if_pos d]
        · rw [if_neg d] at h; exact absurd rfl h
      · rfl
    rw [if_neg d] at h ⊢
    split
    · rename_i y z u _
      simp only at h
      by_cases d:y=0
      · rw [if_pos d]
      · rw [if_neg d] at h; exact absurd rfl h
    · rfl
theorem num_back (xs:List Int) (hb:isB xs) (n s:Int) (h:num xs 1 0=(n,s,0)):∃ r,xs=TG.grp n ++ r ∧ s=((TG.grp n).length:Int) + 1 ∧ 31 ≤ n ∧ n ≤ 268435455:=by
  cases xs with
  | nil => simp [num] at h
  | cons x xs =>
  have hx:=hb x (by simp)
  unfold num at h
  by_cases a:((1:Int)=1 ∧ x=128) ∨ ((1:Int)=4 ∧ 128 ≤ x)
  · rw [if_pos a] at h; simp at h
  rw [if_neg a] at h
  by_cases b:x < 128
  · rw [if_pos b] at h
    by_cases c:128 * (0:Int) + x % 128 < 31
    · rw [if_pos c] at h; simp at h
    rw [if_neg c] at h
    simp at h
    obtain ⟨h1,rfl⟩:=h
    obtain rfl:n=x:=by omega
    have e:TG.grp n=[n]:=by unfold TG.grp TG.top; rw [if_pos b]; simp only [TG.oct]; simp; omega
    exact ⟨xs,by rw [e]; rfl,by rw [e]; rfl,by omega,by omega⟩
  rw [if_neg b] at h
  cases xs with
  | nil => simp [num] at h
  | cons y xs =>
  have hy:=hb y (by simp)
  unfold num at h
  by_cases a2:((1:Int) + 1=1 ∧ y=128) ∨ ((1:Int) + 1=4 ∧ 128 ≤ y)
  · omega
  rw [if_neg a2] at h
  by_cases b2:y < 128
  · rw [if_pos b2] at h
    by_cases c:128 * (128 * (0:Int) + x % 128) + y % 128 < 31
    · rw [if_pos c] at h; simp at h
    rw [if_neg c] at h
    simp at h
    obtain ⟨h1,rfl⟩:=h
    have e:TG.grp n=[x,y]:=by
      unfold TG.grp TG.top; rw [if_neg (by omega),if_pos (by omega)]; simp only [TG.oct]; simp; omega
    exact ⟨xs,by rw [e]; rfl,by rw [e]; rfl,by omega,by omega⟩
  rw [if_neg b2] at h
  cases xs with
  | nil => simp [num] at h
  | cons z xs =>
  have hz:=hb z (by simp)
  unfold num at h
  by_cases a3:((1:Int) + 1 + 1=1 ∧ z=128) ∨ ((1:Int) + 1 + 1=4 ∧ 128 ≤ z)
  · omega
  rw [if_neg a3] at h
  by_cases b3:z < 128
  · rw [if_pos b3] at h
    by_cases c:128 * (128 * (128 * (0:Int) + x % 128) + y % 128) + z % 128 < 31
    · rw [if_pos c] at h; simp at h
    rw [if_neg c] at h
    simp at h
    obtain ⟨h1,rfl⟩:=h
    have e:TG.grp n=[x,y,z]:=by
      unfold TG.grp TG.top; rw [if_neg (by omega),if_neg (by omega),if_pos (by omega)]; simp only [TG.oct]; simp; omega
    exact ⟨xs,by rw [e]; rfl,by rw [e]; rfl,by omega,by omega⟩
  rw [if_neg b3] at h
  cases xs with
  | nil => simp [num] at h
  | cons u xs =>
  have hu:=hb u (by simp)
  unfold num at h
  by_cases a4:((1:Int) + 1 + 1 + 1=1 ∧ u=128) ∨ ((1:Int) + 1 + 1 + 1=4 ∧ 128 ≤ u)
  · rw [if_pos a4] at h; simp at h
  rw [if_neg a4] at h
  rw [if_pos (by omega)] at h
  by_cases c:128 * (128 * (128 * (128 * (0:Int) + x % 128) + y % 128) + z % 128) + u % 128 < 31
  · rw [if_pos c] at h; simp at h
  rw [if_neg c] at h
  simp at h
  obtain ⟨h1,rfl⟩:=h
  have e:TG.grp n=[x,y,z,u]:=by
    unfold TG.grp TG.top; rw [if_neg (by omega),if_neg (by omega),if_neg (by omega)]; simp only [TG.oct]; simp; omega
  exact ⟨xs,by rw [e]; rfl,by rw [e]; rfl,by omega,by omega⟩
theorem tagE_3 {c:Int} {k:Bool} {n:Int} (h:tagE c k n=0):c ≤ 3 ∧ n ≤ 268435455:=by
  unfold tagE at h
  by_cases q:3 < c ∨ 268435455 < n
  · rw [if_pos q] at h; cases h
  · omega
theorem gt_back (xs:List Int) (hb:isB xs) (c:Int) (k:Bool) (n s:Int) (h:gt xs=((c,k,n),s,0)):∃ r,xs=TG.tagO c k n ++ r ∧ s=((TG.tagO c k n).length:Int) ∧ tagE c k n=0 ∧ 0 ≤ c ∧ 0 ≤ n:=by
  cases xs with
  | nil => simp [gt] at h
  | cons x r =>
    have hx:=hb x (by simp)
    have hr:isB r:=fun y hy => hb y (by simp [hy])
    simp only [gt] at h
    by_cases a:x % 32=31
    · simp only [a,if_true] at h
      by_cases pe:(num r 1 0).2.2=0
      · simp only [pe,if_true] at h
        by_cases te:tagE (x / 64) (decide (x / 32 % 2=1)) (num r 1 0).1=0
        · simp only [te,ne_eq,not_true_eq_false,if_false,Prod.mk.injEq,and_true] at h
          obtain ⟨⟨rfl,rfl,hn⟩,hs⟩:=h
          have hq:num r 1 0=(n,s,0):=Prod.ext hn (Prod.ext hs pe)
          obtain ⟨r',e1,e2,e3,e4⟩:=num_back r hr n s hq
          have e5:TG.tagO (x / 64) (decide (x / 32 % 2=1)) n=x :: TG.grp n:=by
            unfold TG.tagO
            rw [if_neg (by omega)]
            congr 1
            by_cases q:x / 32 % 2=1
            · simp [q]; omega
            · simp [q]; omega
          exact ⟨r',by rw [e5,e1]; rfl,by rw [e5,e2]; simp,by rw [← hn]; exact te,by omega,by omega⟩
        · rw [if_pos te] at h
          exact absurd (congrArg (fun p => p.2.2) h) te
      · rw [if_neg pe,if_pos pe] at h
        exact absurd (congrArg (fun p => p.2.2) h) pe
    · simp only [a,if_false,if_true] at h
      by_cases te:tagE (x / 64) (decide (x / 32 % 2=1)) (x % 32)=0
      · simp only [te,ne_eq,not_true_eq_false,if_false,Prod.mk.injEq,and_true] at h
        obtain ⟨⟨rfl,rfl,rfl⟩,rfl⟩:=h
        have e5:TG.tagO (x / 64) (decide (x / 32 % 2=1)) (x % 32)=[x]:=by
          unfold TG.tagO
          rw [if_pos (by omega)]
          congr 1
          by_cases q:x / 32 % 2=1
          · simp [q]; omega
          · simp [q]; omega
        exact ⟨r,by rw [e5]; rfl,by rw [e5]; rfl,te,by omega,by omega⟩
      · rw [if_pos te] at h
        exact absurd (congrArg (fun p => p.2.2) h) te
theorem ifn (e:Int) (q:(Int × Bool × Int) × Int × Int) (hq:q.2.2=0) (h:(if e ≠ 0 then ((0,false,0),0,e) else q).2.2 ≠ 0):(if e ≠ 0 then ((0,false,0),0,e) else q)=((0,false,0),0,(if e ≠ 0 then (((0:Int),false,(0:Int)),(0:Int),e) else q).2.2):=by
  by_cases he:e ≠ 0
  · rw [if_pos he]
  · rw [if_neg he] at h; exact absurd hq h
theorem gt_n (xs:List Int) (h:(gt xs).2.2 ≠ 0):gt xs=((0,false,0),0,(gt xs).2.2):=by
  cases xs with
  | nil => rfl
  | cons x r =>
    unfold gt at h ⊢
    exact ifn _ _ rfl h
end Sp
end
section
open Ab Go TabE Sp E40
namespace E51
theorem aLoop_cl {g:St → Option (AExit × St)} {cl:St → St} {n:Nat} {s s':St} (h:cl s=cl s'):aLoop g cl n s=aLoop g cl n s':=by cases n <;> simp only [aLoop,h]
end E51
end
section
open Ab Go TabE
attribute [local simp ↓] s_seq s_reg s_regd s_cond s_block s_cons s_consG s_regD
attribute [local simp] s_nil s_loop s_round s_lpn s_lpe s_lpr firstReg s_gt s_gf s_wb s_wu s_val s_valN s_skip s_calls s_callP s_cax lookR flatR pureKs s_ret s_rgx s_sqn s_sqr s_sqe s_cdb s_bkn s_bkr s_bke s_exit s_ret' s_skip' s_finr s_finn s_fin1 s_fix s_clean s_gc0 o_tmp o_int o_bool o_nil o_str o_fn o_nil' l_hit l_miss l_nil ol_nil ol_cons ol_some x_move x_assign x_pick pk_t pk_f x_bin bn_s x_un x_extract x_callF cl_no x_callB x_callBF frzV x_conv cvx convA frame0 binA intOp resL resA results1 sealLW AV.pure AV.pureL keepT x_alloc x_box bxx x_build bdx x_buildSlice bsx x_buildSliceF bsf x_load ldx x_store stx x_slice slx x_fieldAddr x_field x_index ixx x_indexAddr iax x_makeSlice msx x_makeSliceF msf x_nilCheck newK genOf setK lookK fillA writeL writeC readC conts TyI.mk1 sliceA boundsA boundsB fitsA numA indexAddrA fieldAddrA partA fieldA indexA appendA copyA builtinA AV.cells chunk gcH reach keysT keepK inKs AV.keys AV.keysL Ty.isAgg eq1 eqL convA.go ltI w_u8 w_u32 w_u64 w_i64 w_fdiv w_tdiv w_tmod IntKind.bits unA sc_int sc_bool sc_str sc_sl sc_ref sc_ptr sc_pel sc_nilp sc_fn sc_nilf sc_if sc_nili sc_agg sc_tup sc_mem bs_pure bs_kl bs_length bs_cells bs_all sl_row sealRow sealY sl_int sl_bool sl_str sl_sl sl_nilp sl_nilf sl_nili sl_pel sl_agg sl_tup sl_fn sl_if nat_1 bs_cons bs_nil i_beq i_bne x_mkF x_mkI x_tassert x_panic s_pan s_sqp s_bkp s_finp s_fixp s_lpp s_rgp s_retp s_site s_stxN s_stxO x_callT clx El.avs_len s_dyn0 s_rgy barOf dynChk footL dynOK disjK keysOp opVals Op.operands
section
open Ab Go TabE Sp F1
namespace F2
def lb (x:Int):List Int:=if (tg x).1=0 ∧ (tg x).2.2=1 then [255] else if (tg x).1=0 ∧ (tg x).2.2=2 then [x / 8] else List.replicate (x * (x / 64)).toNat 0
def leaf (x:Int):El:=.mk (tg x).1 false (tg x).2.2 false (lb x) (some (lb x).length) true [] (some 0)
def node (x:Int) (s:List El):El:=.mk (tg x).1 true (tg x).2.2 true [] (some 0) s.isEmpty s (if s.isEmpty then some 0 else none)
def bB:Code:=lp c127 0
abbrev S0 (fl:Bool) (cs:List Int) (cp:Option Nat) (i lv:Nat):St:=⟨[(0,.sl fl (bs cs) cp),(1,.int .i64 (i:Int)),(2,.int .i64 (lv:Int)),(8,.sl true [] (some 0))],[]⟩
abbrev SR (fl:Bool) (cs:List Int) (cp:Option Nat) (i lv:Nat) (l:List El) (g:Nat):St:=⟨[(0,.sl fl (bs cs) cp),(1,.int .i64 (i:Int)),(2,.int .i64 (lv:Int)),(8,.ref (1,84,g) 0 l.length none)],[((1,84,g),⟨El.fl l,true,true,false,5,true⟩)]⟩
theorem last0 (q k1:Nat) (fl cs cp) (i lv:Nat) (h:cs.length ≤ i ∨ 40 ≤ i):rnd fn127 bB q k1 (S0 fl cs cp i lv)=some (.exit 0,⟨[(0,.sl fl (bs cs) cp),(1,.int .i64 (i:Int)),(2,.int .i64 (lv:Int)),(8,.sl true [] (some 0)),(18,.bool false)],[]⟩):=by
  by_cases h1:i < cs.length
  · have h2:¬ (i:Int) < 40:=by omega
    have h3:¬ i < 40:=by omega
    simp [bB,lp,lps,c127,h1,h2,h3]
  · simp [bB,lp,lps,c127,h1]
theorem lastR (q k1:Nat) (fl cs cp) (i lv:Nat) (l:List El) (g:Nat) (h:cs.length ≤ i ∨ 40 ≤ i):rnd fn127 bB q k1 (SR fl cs cp i lv l g)=some (.exit 0,⟨[(0,.sl fl (bs cs) cp),(1,.int .i64 (i:Int)),(2,.int .i64 (lv:Int)),(8,.ref (1,84,g) 0 l.length none),(18,.bool false)],[((1,84,g),⟨El.fl l,true,true,false,5,true⟩)]⟩):=by
  have f2:=El.fl_keys l
  by_cases h1:i < cs.length
  · have h2:¬ (i:Int) < 40:=by omega
    have h3:¬ i < 40:=by omega
    simp [bB,lp,lps,c127,h1,h2,h3,f2]
  · simp [bB,lp,lps,c127,h1,f2]
theorem end0 (q k1:Nat) (fl cs cp) (i lv:Nat) (x:Int) (hx:cs[i]? = some x) (i40:i < 40) (x0:0 ≤ x) (hm:x % 16=15):rnd fn127 bB q k1 (S0 fl cs cp i lv)=some (.ret,⟨[(6,.sl true [] (some 0)),(7,.int .i64 ((i:Int) + 1))],[]⟩):=by
  have hi:i < cs.length:=(List.getElem?_eq_some_iff.1 hx).1
  have ix:=E40.byte_at fl cp cs i x hx
  have w:=w64' ((i:Int) + 1) (by omega) (by omega)
  have i40':(i:Int) < 40:=by omega
  have t1:Int.tmod x 16=x % 16:=Int.tmod_eq_emod_of_nonneg x0
  simp [bB,lp,lps,c127,-indexAddrA,ix,w,hi,i40,i40',t1,hm]
theorem endR (q k1:Nat) (fl cs cp) (i lv:Nat) (l:List El) (g:Nat) (x:Int) (hx:cs[i]? = some x) (i40:i < 40) (x0:0 ≤ x) (hm:x % 16=15):rnd fn127 bB q k1 (SR fl cs cp i lv l g)=some (.ret,⟨[(6,.ref (1,84,g) 0 l.length none),(7,.int .i64 ((i:Int) + 1))],[((1,84,g),⟨El.fl l,true,true,false,5,true⟩)]⟩):=by
  have hi:i < cs.length:=(List.getElem?_eq_some_iff.1 hx).1
  have ix:=E40.byte_at fl cp cs i x hx
  have w:=w64' ((i:Int) + 1) (by omega) (by omega)
  have i40':(i:Int) < 40:=by omega
  have t1:Int.tmod x 16=x % 16:=Int.tmod_eq_emod_of_nonneg x0
  have f2:=El.fl_keys l
  simp [bB,lp,lps,c127,-indexAddrA,ix,w,hi,i40,i40',t1,hm,f2]
abbrev S5 (fl:Bool) (cs:List Int) (cp:Option Nat) (i:Nat) (x:Int):St:=⟨[(0,.sl fl (bs cs) cp),(1,.int .i64 (i:Int)),(2,.int .i64 5),(8,.sl true [] (some 0)),(10,.ptr (1,10,0) 0),(37,.bool true)],[((1,10,0),bx [.int .u8 (tg x).1,.bool (tg x).2.1,.int .u32 (tg x).2.2,.sl true [] (some 0),.sl true [] (some 0)])]⟩
abbrev SR5 (fl:Bool) (cs:List Int) (cp:Option Nat) (i:Nat) (l:List El) (g:Nat) (x:Int):St:=⟨[(0,.sl fl (bs cs) cp),(1,.int .i64 (i:Int)),(2,.int .i64 5),(8,.ref (1,84,g) 0 l.length none),(10,.ptr (1,10,0) 0),(37,.bool true)],[((1,84,g),⟨El.fl l,true,true,false,5,true⟩),((1,10,0),bx [.int .u8 (tg x).1,.bool (tg x).2.1,.int .u32 (tg x).2.2,.sl true [] (some 0),.sl true [] (some 0)])]⟩
abbrev TagC (q:Nat) (x:Int):Prop:=∀ h,aCall E q 0 128 [.int .u8 x] h=some (.ret (.agg [.int .u8 (tg x).1,.bool (tg x).2.1,.int .u32 (tg x).2.2]),h)
theorem skip0 (q k1:Nat) (fl cs cp) (i:Nat) (x:Int) (hx:cs[i]? = some x) (i40:i < 40) (x0:0 ≤ x) (hm:¬ x % 16=15) (T:TagC q x) (k:(tg x).2.1=true):rnd fn127 bB q k1 (S0 fl cs cp i 5)=some (.normal,S5 fl cs cp (i + 1) x):=by
  have hi:i < cs.length:=(List.getElem?_eq_some_iff.1 hx).1
  have ix:=E40.byte_at fl cp cs i x hx
  have w:=w64' ((i:Int) + 1) (by omega) (by omega)
  have i40':(i:Int) < 40:=by omega
  have t1:Int.tmod x 16=x % 16:=Int.tmod_eq_emod_of_nonneg x0
  simp [bB,lp,lps,c127,-indexAddrA,ix,w,hi,i40,i40',t1,hm,T,k]
theorem skipR (q k1:Nat) (fl cs cp) (i:Nat) (l:List El) (g:Nat) (x:Int) (hx:cs[i]? = some x) (i40:i < 40) (x0:0 ≤ x) (hm:¬ x % 16=15) (T:TagC q x) (k:(tg x).2.1=true):rnd fn127 bB q k1 (SR fl cs cp i 5 l g)=some (.normal,SR5 fl cs cp (i + 1) l g x):=by
  have hi:i < cs.length:=(List.getElem?_eq_some_iff.1 hx).1
  have ix:=E40.byte_at fl cp cs i x hx
  have w:=w64' ((i:Int) + 1) (by omega) (by omega)
  have i40':(i:Int) < 40:=by omega
  have t1:Int.tmod x 16=x % 16:=Int.tmod_eq_emod_of_nonneg x0
  have f2:=El.fl_keys l
  simp [bB,lp,lps,c127,-indexAddrA,ix,w,hi,i40,i40',t1,hm,T,k,f2]
theorem cl0 (fl cs cp i x):cleanS 1 ((firstReg bB).bind fn127.head) (S5 fl cs cp i x)=cleanS 1 ((firstReg bB).bind fn127.head) (S0 fl cs cp i 5):=rfl
theorem clR (fl cs cp i l g x):cleanS 1 ((firstReg bB).bind fn127.head) (SR5 fl cs cp i l g x)=cleanS 1 ((firstReg bB).bind fn127.head) (SR fl cs cp i 5 l g):=by
  have f2:=El.fl_keys l
  simp [bB,lp,lps,c127,firstReg,cleanS,keepT,lookT,gcH,reach,keysT,AV.keys,keepK,inKs,lookK,f2,AV.keysL,bx]
end F2
end
section
open Ab Go TabE Sp F1 F2
namespace F3
abbrev BC (q:Nat) (fl:Bool) (cs:List Int) (cp:Option Nat) (i lv:Nat) (s:List El) (i':Nat):Prop:=∀ h,aCall E q 0 127 [.sl fl (bs cs) cp,.int .i64 (i:Int),.int .i64 (lv:Int)] h=some (.ret (.tup [.sl s.isEmpty (El.avs s) (if s.isEmpty then some 0 else none),.int .i64 (i':Int)]),h)
theorem node0 (q k1:Nat) (fl cs cp) (i lv:Nat) (x:Int) (s:List El) (i':Nat) (hx:cs[i]? = some x) (i40:i < 40) (x0:0 ≤ x) (hm:¬ x % 16=15) (T:TagC q x) (k:(tg x).2.1=true) (l5:lv < 5) (B:BC q fl cs cp (i + 1) (lv + 1) s i'):rnd fn127 bB q k1 (S0 fl cs cp i lv)=some (.normal,SR fl cs cp i' lv [node x s] 0):=by
  have hi:i < cs.length:=(List.getElem?_eq_some_iff.1 hx).1
  have ix:=E40.byte_at fl cp cs i x hx
  have w:=w64' ((i:Int) + 1) (by omega) (by omega)
  have w2:=w64' ((lv:Int) + 1) (by omega) (by omega)
  have i40':(i:Int) < 40:=by omega
  have l5':¬ (lv:Int)=5:=by omega
  have l6':¬ lv=5:=by omega
  have t1:Int.tmod x 16=x % 16:=Int.tmod_eq_emod_of_nonneg x0
  rw [node]
  have e1:((i + 1:Nat):Int)=(i:Int) + 1:=by omega
  have e2:((lv + 1:Nat):Int)=(lv:Int) + 1:=by omega
  unfold BC at B
  rw [e1,e2] at B
  simp [bB,lp,lps,c127,-indexAddrA,ix,w,w2,hi,i40,i40',t1,hm,T,k,l5',l6',B,El.fl_mk1]
theorem nodeR (q k1:Nat) (fl cs cp) (i lv:Nat) (l:List El) (g:Nat) (x:Int) (s:List El) (i':Nat) (hl:l.length ≤ 1000) (hx:cs[i]? = some x) (i40:i < 40) (x0:0 ≤ x) (hm:¬ x % 16=15) (T:TagC q x) (k:(tg x).2.1=true) (l5:lv < 5) (B:BC q fl cs cp (i + 1) (lv + 1) s i'):rnd fn127 bB q k1 (SR fl cs cp i lv l g)=some (.normal,SR fl cs cp i' lv (l ++ [node x s]) (g + 1)):=by
  have hi:i < cs.length:=(List.getElem?_eq_some_iff.1 hx).1
  have ix:=E40.byte_at fl cp cs i x hx
  have w:=w64' ((i:Int) + 1) (by omega) (by omega)
  have w2:=w64' ((lv:Int) + 1) (by omega) (by omega)
  have i40':(i:Int) < 40:=by omega
  have l5':¬ (lv:Int)=5:=by omega
  have l6':¬ lv=5:=by omega
  have t1:Int.tmod x 16=x % 16:=Int.tmod_eq_emod_of_nonneg x0
  rw [node]
  have e1:((i + 1:Nat):Int)=(i:Int) + 1:=by omega
  have e2:((lv + 1:Nat):Int)=(lv:Int) + 1:=by omega
  unfold BC at B
  rw [e1,e2] at B
  have cs5:(l.length + 1) * 56 ≤ 70368744177664:=by omega
  have f1:=El.fl_len l
  have f2:=El.fl_keys l
  have f3:(El.fl l).take (l.length * 5)=El.fl l:=by rw [El.fl_take,List.take_length]
  have f4:=El.fl_pure l
  have f5:=El.fl_scal l
  simp [bB,lp,lps,c127,-indexAddrA,ix,w,w2,hi,i40,i40',t1,hm,T,k,l5',l6',B,El.fl_mkS,f1,f2,f3,f4,f5,cs5,El.fl_keysr]
theorem lb_z (n:Nat):List.replicate n (AV.int .u8 0)=bs (List.replicate n 0):=by simp [bs]
theorem chk_z (n:Nat):chunk false 1 n (bs (List.replicate n 0))=bs (List.replicate n 0):=by
  have:=El.chk_bs (List.replicate n 0)
  simpa using this
theorem take_z (n:Nat):(bs (List.replicate n 0)).take n=bs (List.replicate n 0):=by
  rw [List.take_of_length_le]; rw [bs_len]; simp
theorem leaf_cases (x:Int) (h0:0 ≤ x) (h1:x < 256):((tg x).1=0 ∧ (tg x).2.2=1 ∧ leaf x=.mk 0 false 1 false [255] (some 1) true [] (some 0)) ∨ ((tg x).1=0 ∧ (tg x).2.2=2 ∧ leaf x=.mk 0 false 2 false [x / 8] (some 1) true [] (some 0)) ∨
    (¬ ((tg x).1=0 ∧ (tg x).2.2=1) ∧ ¬ ((tg x).1=0 ∧ (tg x).2.2=2) ∧ ∃ n:Nat,x * (x / 64)=n ∧ n ≤ 1000 ∧ leaf x=.mk (tg x).1 false (tg x).2.2 false (List.replicate n 0) (some n) true [] (some 0)):=by
  by_cases a:(tg x).1=0 ∧ (tg x).2.2=1
  · exact .inl ⟨a.1,a.2,by unfold leaf lb; rw [if_pos a,a.1,a.2]; rfl⟩
  by_cases b:(tg x).1=0 ∧ (tg x).2.2=2
  · exact .inr (.inl ⟨b.1,b.2,by unfold leaf lb; rw [if_neg a,if_pos b,b.1,b.2]; rfl⟩)
  · refine .inr (.inr ⟨a,b,?_⟩)
    have q:x / 64=0 ∨ x / 64=1 ∨ x / 64=2 ∨ x / 64=3:=by omega
    obtain ⟨n,hn⟩:∃ n:Nat,x * (x / 64)=n:=⟨(x * (x / 64)).toNat,(Int.toNat_of_nonneg (Int.mul_nonneg h0 (by omega))).symm⟩
    refine ⟨n,hn,by rcases q with q | q | q | q <;> rw [q] at hn <;> omega,?_⟩
    unfold leaf lb; rw [if_neg a,if_neg b,hn]; simp
theorem leaf0 (q k1:Nat) (fl cs cp) (i lv:Nat) (x:Int) (hx:cs[i]? = some x) (i40:i < 40) (x0:0 ≤ x) (x1:x < 256) (hm:¬ x % 16=15) (T:TagC q x) (k:(tg x).2.1=false):rnd fn127 bB q k1 (S0 fl cs cp i lv)=some (.normal,SR fl cs cp (i + 1) lv [leaf x] 0):=by
  have hi:i < cs.length:=(List.getElem?_eq_some_iff.1 hx).1
  have ix:=E40.byte_at fl cp cs i x hx
  have w:=w64' ((i:Int) + 1) (by omega) (by omega)
  have i40':(i:Int) < 40:=by omega
  have t1:Int.tmod x 16=x % 16:=Int.tmod_eq_emod_of_nonneg x0
  have t2:Int.tdiv x 8=x / 8:=Int.tdiv_eq_ediv_of_nonneg x0
  have t3:Int.tdiv x 64=x / 64:=Int.tdiv_eq_ediv_of_nonneg x0
  have w8:(x / 8) % 256=x / 8:=Int.emod_eq_of_lt (by omega) (by omega)
  have w9:(x / 64) % 256=x / 64:=Int.emod_eq_of_lt (by omega) (by omega)
  have w10:=w64' x (by omega) (by omega)
  have w11:=w64' (x / 64) (by omega) (by omega)
  rcases leaf_cases x x0 x1 with ⟨a,b,e⟩ | ⟨a,b,e⟩ | ⟨a,b,n,hn,nb,e⟩
  · rw [e]; simp [bB,lp,lps,c127,-indexAddrA,ix,w,hi,i40,i40',t1,hm,T,k,a,b,El.fl_mk1,El.avs]
  · rw [e]; simp [bB,lp,lps,c127,-indexAddrA,ix,w,hi,i40,i40',t1,hm,T,k,a,b,t2,w8,El.fl_mk1,El.avs]
  · have w12:=w64' (n:Int) (by omega) (by omega)
    have n1:(n:Int) ≤ 70368744177664:=by omega
    rw [e]
    by_cases a0:(tg x).1=0
    · have a1:¬ (tg x).2.2=1:=fun h => a ⟨a0,h⟩
      have b1:¬ (tg x).2.2=2:=fun h => b ⟨a0,h⟩
      simp [bB,lp,lps,c127,-indexAddrA,ix,w,hi,i40,i40',t1,hm,T,k,a0,a1,b1,t3,w9,w10,w11,w12,hn,n1,lb_z,chk_z,take_z,El.fl_mk1,El.avs]
    · simp [bB,lp,lps,c127,-indexAddrA,ix,w,hi,i40,i40',t1,hm,T,k,a0,t3,w9,w10,w11,w12,hn,n1,lb_z,chk_z,take_z,El.fl_mk1,El.avs]
theorem leafR (q k1:Nat) (fl cs cp) (i lv:Nat) (l:List El) (g:Nat) (x:Int) (hl:l.length ≤ 1000) (hx:cs[i]? = some x) (i40:i < 40) (x0:0 ≤ x) (x1:x < 256) (hm:¬ x % 16=15) (T:TagC q x) (k:(tg x).2.1=false):rnd fn127 bB q k1 (SR fl cs cp i lv l g)=some (.normal,SR fl cs cp (i + 1) lv (l ++ [leaf x]) (g + 1)):=by
  have hi:i < cs.length:=(List.getElem?_eq_some_iff.1 hx).1
  have ix:=E40.byte_at fl cp cs i x hx
  have w:=w64' ((i:Int) + 1) (by omega) (by omega)
  have i40':(i:Int) < 40:=by omega
  have t1:Int.tmod x 16=x % 16:=Int.tmod_eq_emod_of_nonneg x0
  have t2:Int.tdiv x 8=x / 8:=Int.tdiv_eq_ediv_of_nonneg x0
  have t3:Int.tdiv x 64=x / 64:=Int.tdiv_eq_ediv_of_nonneg x0
  have w8:(x / 8) % 256=x / 8:=Int.emod_eq_of_lt (by omega) (by omega)
  have w9:(x / 64) % 256=x / 64:=Int.emod_eq_of_lt (by omega) (by omega)
  have w10:=w64' x (by omega) (by omega)
  have w11:=w64' (x / 64) (by omega) (by omega)
  have cs5:(l.length + 1) * 56 ≤ 70368744177664:=by omega
  have f1:=El.fl_len l
  have f2:=El.fl_keys l
  have f3:(El.fl l).take (l.length * 5)=El.fl l:=by rw [El.fl_take,List.take_length]
  have f4:=El.fl_pure l
  have f5:=El.fl_scal l
  rcases leaf_cases x x0 x1 with ⟨a,b,e⟩ | ⟨a,b,e⟩ | ⟨a,b,n,hn,nb,e⟩
  · rw [e]; simp [bB,lp,lps,c127,-indexAddrA,ix,w,hi,i40,i40',t1,hm,T,k,a,b,El.fl_mkS,El.avs,f1,f2,f3,f4,f5,cs5,El.fl_keysr]
  · rw [e]; simp [bB,lp,lps,c127,-indexAddrA,ix,w,hi,i40,i40',t1,hm,T,k,a,b,t2,w8,El.fl_mkS,El.avs,f1,f2,f3,f4,f5,cs5,El.fl_keysr]
  · have w12:=w64' (n:Int) (by omega) (by omega)
    have n1:(n:Int) ≤ 70368744177664:=by omega
    rw [e]
    by_cases a0:(tg x).1=0
    · have a1:¬ (tg x).2.2=1:=fun h => a ⟨a0,h⟩
      have b1:¬ (tg x).2.2=2:=fun h => b ⟨a0,h⟩
      simp [bB,lp,lps,c127,-indexAddrA,ix,w,hi,i40,i40',t1,hm,T,k,a0,a1,b1,t3,w9,w10,w11,w12,hn,n1,lb_z,chk_z,take_z,El.fl_mkS,El.avs,f1,f2,f3,f4,f5,cs5,El.fl_keysr]
    · simp [bB,lp,lps,c127,-indexAddrA,ix,w,hi,i40,i40',t1,hm,T,k,a0,t3,w9,w10,w11,w12,hn,n1,lb_z,chk_z,take_z,El.fl_mkS,El.avs,f1,f2,f3,f4,f5,cs5,El.fl_keysr]
end F3
end
section
open Ab Go TabE Sp F1 F2 F3
namespace F4
def bld:Nat → List Int → Nat → Nat → List El × Nat
  | 0,_,i,_ => ([],i)
  | f + 1,cs,i,lv =>
    match cs[i]? with
    | none => ([],i)
    | some x =>
      if 40 ≤ i then ([],i)
      else if x % 16=15 then ([],i + 1)
      else if (tg x).2.1=true then
        (if lv=5 then bld f cs (i + 1) lv
        else (node x (bld f cs (i + 1) (lv + 1)).1 :: (bld f cs (bld f cs (i + 1) (lv + 1)).2 lv).1,(bld f cs (bld f cs (i + 1) (lv + 1)).2 lv).2))
      else (leaf x :: (bld f cs (i + 1) lv).1,(bld f cs (i + 1) lv).2)
theorem bld_le:∀ (f:Nat) (cs:List Int) (i lv:Nat),i ≤ 40 → i ≤ (bld f cs i lv).2 ∧ (bld f cs i lv).2 ≤ 40 ∧ (bld f cs i lv).1.length + i ≤ (bld f cs i lv).2
  | 0,cs,i,lv,h => by unfold bld; simp [h]
  | f + 1,cs,i,lv,h => by
    unfold bld
    cases cs[i]? with
    | none => simp [h]
    | some x =>
      simp only
      by_cases a:40 ≤ i
      · rw [if_pos a]; simp [h]
      rw [if_neg a]
      by_cases b:x % 16=15
      · rw [if_pos b]; simp; omega
      rw [if_neg b]
      have r1:=bld_le f cs (i + 1) lv (by omega)
      by_cases c:(tg x).2.1=true
      · rw [if_pos c]
        by_cases d:lv=5
        · rw [if_pos d]; omega
        · rw [if_neg d]
          have r2:=bld_le f cs (i + 1) (lv + 1) (by omega)
          have r3:=bld_le f cs (bld f cs (i + 1) (lv + 1)).2 lv r2.2.1
          simp only [List.length_cons]; omega
      · rw [if_neg c]; simp only [List.length_cons]; omega
abbrev Kn (f:Nat):Prop:=∀ (fl:Bool) (cs:List Int) (cp:Option Nat) (i lv:Nat),isB cs → i ≤ 40 → lv ≤ 5 → 41 - i ≤ f → Con E (f + 200) 127 [.sl fl (bs cs) cp,.int .i64 (i:Int),.int .i64 (lv:Int)] (.tup [.sl (bld f cs i lv).1.isEmpty (El.avs (bld f cs i lv).1) (if (bld f cs i lv).1.isEmpty then some 0 else none),.int .i64 ((bld f cs i lv).2:Int)])
abbrev Lp (K:Nat):=aLoop (aCode E (aCall E K) (dcall (aRun E K)) K 1 fn127 bB) (cleanS 1 ((firstReg bB).bind fn127.head))
def Sx (fl:Bool) (cs:List Int) (cp:Option Nat) (i lv:Nat) (l:List El):St:=if l=[] then S0 fl cs cp i lv else SR fl cs cp i lv l (l.length - 1)
def En1 (fl:Bool) (cs:List Int) (cp:Option Nat) (i lv:Nat) (l:List El):AExit × St:=if l=[] then (.exit 0,⟨[(0,.sl fl (bs cs) cp),(1,.int .i64 (i:Int)),(2,.int .i64 (lv:Int)),(8,.sl true [] (some 0)),(18,.bool false)],[]⟩) else (.exit 0,⟨[(0,.sl fl (bs cs) cp),(1,.int .i64 (i:Int)),(2,.int .i64 (lv:Int)),(8,.ref (1,84,l.length - 1) 0 l.length none),(18,.bool false)],[((1,84,l.length - 1),⟨El.fl l,true,true,false,5,true⟩)]⟩)
def En2 (i:Nat) (l:List El):AExit × St:=if l=[] then (.ret,⟨[(6,.sl true [] (some 0)),(7,.int .i64 (i:Int))],[]⟩) else (.ret,⟨[(6,.ref (1,84,l.length - 1) 0 l.length none),(7,.int .i64 (i:Int))],[((1,84,l.length - 1),⟨El.fl l,true,true,false,5,true⟩)]⟩)
theorem app_ne {l:List El} {x:El}:¬ (l ++ [x]=[]):=by simp
theorem app_len {l:List El} {x:El} (h:l ≠ []):(l ++ [x]).length - 1=l.length - 1 + 1:=by
  have:=List.length_pos_iff.2 h
  rw [List.length_append,List.length_singleton]; omega
theorem loop (K:Nat) (fl:Bool) (cs:List Int) (cp:Option Nat) (lv:Nat) (hb:isB cs) (l5:lv ≤ 5):∀ (f:Nat),(∀ j,j < f → Kn j) → f + 199 ≤ K → ∀ (i:Nat) (l:List El) (k:Nat),i ≤ 40 → l.length + (40 - i) ≤ 1000 → 41 - i ≤ f → 41 - i ≤ k →
    Lp K k (Sx fl cs cp i lv l)=some (En1 fl cs cp (bld f cs i lv).2 lv (l ++ (bld f cs i lv).1)) ∨ Lp K k (Sx fl cs cp i lv l)=some (En2 (bld f cs i lv).2 (l ++ (bld f cs i lv).1)):=by
  intro f
  induction f with
  | zero => intro _ _ i l k _ _ h; omega
  | succ f ih =>
    intro hK hf i l k hi hl h1 h2
    obtain ⟨k,rfl⟩:∃ j,k=j + 1:=⟨k - 1,by omega⟩
    have ends:cs.length ≤ i ∨ 40 ≤ i → Lp K (k + 1) (Sx fl cs cp i lv l)=some (En1 fl cs cp i lv (l ++ [])):=fun h => by
      unfold Sx En1
      rw [List.append_nil]
      by_cases hl0:l=[]
      · rw [if_pos hl0,if_pos hl0]; exact aLoop_end (last0 K K fl cs cp i lv h) (by simp)
      · rw [if_neg hl0,if_neg hl0]; exact aLoop_end (lastR K K fl cs cp i lv l _ h) (by simp)
    unfold bld
    cases hx:cs[i]? with
    | none => exact .inl (ends (.inl (List.getElem?_eq_none_iff.1 hx)))
    | some x =>
      simp only
      by_cases a:40 ≤ i
      · rw [if_pos a]; exact .inl (ends (.inr a))
      rw [if_neg a]
      have xb:=hb x (List.mem_of_getElem? hx)
      have T:TagC K x:=fun h => F1.tag x xb.1 xb.2 K (by omega) 0 h
      by_cases b:x % 16=15
      · rw [if_pos b]
        refine .inr ?_
        unfold Sx En2
        simp only [List.append_nil]
        by_cases hl0:l=[]
        · rw [if_pos hl0,if_pos hl0]; exact aLoop_end (end0 K K fl cs cp i lv x hx (by omega) xb.1 b) (by simp)
        · rw [if_neg hl0,if_neg hl0]; exact aLoop_end (endR K K fl cs cp i lv l _ x hx (by omega) xb.1 b) (by simp)
      rw [if_neg b]
      by_cases c:(tg x).2.1=true
      · rw [if_pos c]
        by_cases d:lv=5
        · rw [if_pos d]
          subst d
          have I:=ih (fun j hj => hK j (by omega)) (by omega) (i + 1) l k (by omega) (by omega) (by omega) (by omega)
          have st:Lp K (k + 1) (Sx fl cs cp i 5 l)=Lp K k (Sx fl cs cp (i + 1) 5 l):=by
            unfold Sx
            by_cases hl0:l=[]
            · rw [if_pos hl0,if_pos hl0]
              exact (aLoop_succ (skip0 K K fl cs cp i x hx (by omega) xb.1 b T c)).trans (E51.aLoop_cl (cl0 fl cs cp (i + 1) x))
            · rw [if_neg hl0,if_neg hl0]
              exact (aLoop_succ (skipR K K fl cs cp i l _ x hx (by omega) xb.1 b T c)).trans (E51.aLoop_cl (clR fl cs cp (i + 1) l _ x))
          rw [st]; exact I
        · rw [if_neg d]
          have r2:=bld_le f cs (i + 1) (lv + 1) (by omega)
          have C:=hK f (by omega) fl cs cp (i + 1) (lv + 1) hb (by omega) (by omega) (by omega)
          have B:BC K fl cs cp (i + 1) (lv + 1) (bld f cs (i + 1) (lv + 1)).1 (bld f cs (i + 1) (lv + 1)).2:=fun h => C K (by omega) 0 h
          obtain ⟨p,hp⟩:∃ p,bld f cs (i + 1) (lv + 1)=p:=⟨_,rfl⟩
          rw [hp] at r2 B ⊢
          have I:=ih (fun j hj => hK j (by omega)) (by omega) p.2 (l ++ [node x p.1]) k (by omega) (by rw [List.length_append,List.length_singleton]; omega) (by omega) (by omega)
          have st:Lp K (k + 1) (Sx fl cs cp i lv l)=Lp K k (Sx fl cs cp p.2 lv (l ++ [node x p.1])):=by
            unfold Sx
            rw [if_neg app_ne]
            by_cases hl0:l=[]
            · subst hl0; rw [if_pos rfl]
              exact aLoop_succ (node0 K K fl cs cp i lv x p.1 p.2 hx (by omega) xb.1 b T c (by omega) B)
            · rw [if_neg hl0,app_len hl0]
              exact aLoop_succ (nodeR K K fl cs cp i lv l _ x p.1 p.2 (by omega) hx (by omega) xb.1 b T c (by omega) B)
          rw [st]
          simp only [List.append_assoc,List.cons_append,List.nil_append] at I
          exact I
      · rw [if_neg c]
        have I:=ih (fun j hj => hK j (by omega)) (by omega) (i + 1) (l ++ [leaf x]) k (by omega) (by rw [List.length_append,List.length_singleton]; omega) (by omega) (by omega)
        have cf:(tg x).2.1=false:=by simpa using c
        have st:Lp K (k + 1) (Sx fl cs cp i lv l)=Lp K k (Sx fl cs cp (i + 1) lv (l ++ [leaf x])):=by
          unfold Sx
          rw [if_neg app_ne]
          by_cases hl0:l=[]
          · subst hl0; rw [if_pos rfl]
            exact aLoop_succ (leaf0 K K fl cs cp i lv x hx (by omega) xb.1 xb.2 b T cf)
          · rw [if_neg hl0,app_len hl0]
            exact aLoop_succ (leafR K K fl cs cp i lv l _ x (by omega) hx (by omega) xb.1 xb.2 b T cf)
        rw [st]
        simp only [List.append_assoc,List.cons_append,List.nil_append] at I
        exact I
theorem build:∀ f:Nat,Kn f:=by
  intro f
  induction f using Nat.strongRecOn with
  | ind f ih =>
    intro fl cs cp i lv hb hi l5 hf
    obtain ⟨K,hK⟩:∃ K,f + 199=K:=⟨_,rfl⟩
    have eK:f + 200=K + 1:=by omega
    rw [eK]
    have L:=loop K fl cs cp lv hb l5 f ih (by omega) i [] K hi (by simp; omega) hf (by omega)
    rw [Sx,if_pos rfl,List.nil_append] at L
    refine con_of E_fn127 (by simp [AV.pureL,AV.pure]) (Nat.le_of_ble_eq_true rfl) rfl rfl (g:=[]) ?_
    rw [body_127,c127]
    obtain ⟨out,ho⟩:∃ out,(bld f cs i lv).1=out:=⟨_,rfl⟩
    obtain ⟨j,hj⟩:∃ j,(bld f cs i lv).2=j:=⟨_,rfl⟩
    rw [ho,hj] at L ⊢
    have l1:=El.fl_len out
    have l2:=El.fl_keys out
    have l3:=El.fl_pure out
    have sx:=fun n h key => E32.sealX_fl n h key out none true false
    rcases L with L | L
    · rw [En1] at L
      by_cases o0:out=[]
      · subst o0
        rw [if_pos rfl] at L
        simp [Lp,bB,lp,lps,c127,firstReg] at L
        simp [-s_round,L,El.avs]
      · have e0:out.isEmpty=false:=by cases out with | nil => exact absurd rfl o0 | cons x r => rfl
        rw [if_neg o0] at L
        simp [Lp,bB,lp,lps,c127,firstReg] at L
        simp [-s_round,L,l1,l2,l3,sx,e0,o0]
    · rw [En2] at L
      by_cases o0:out=[]
      · subst o0
        rw [if_pos rfl] at L
        simp [Lp,bB,lp,lps,c127,firstReg] at L
        simp [-s_round,L,El.avs]
      · have e0:out.isEmpty=false:=by cases out with | nil => exact absurd rfl o0 | cons x r => rfl
        rw [if_neg o0] at L
        simp [Lp,bB,lp,lps,c127,firstReg] at L
        simp [-s_round,L,l1,l2,l3,sx,e0,o0]
end F4
end
end
section
open Ab Go TabE
attribute [local simp ↓] s_seq s_reg s_regd s_cond s_block s_cons s_consG s_regD
attribute [local simp] s_nil s_loop s_round s_lpn s_lpe s_lpr firstReg s_gt s_gf s_wb s_wu s_val s_valN s_skip s_calls s_callP s_cax lookR flatR pureKs s_ret s_rgx s_sqn s_sqr s_sqe s_cdb s_bkn s_bkr s_bke s_exit s_ret' s_skip' s_finr s_finn s_fin1 s_fix s_clean s_gc0 o_tmp o_int o_bool o_nil o_str o_fn o_nil' l_hit l_miss l_nil ol_nil ol_cons ol_some x_move x_assign x_pick pk_t pk_f x_bin bn_s x_un x_extract x_callF cl_no x_callB x_callBF frzV x_conv cvx convA frame0 binA intOp resL resA results1 sealLW AV.pure AV.pureL keepT x_alloc x_box bxx x_build bdx x_buildSlice bsx x_buildSliceF bsf x_load ldx x_store stx x_slice slx x_fieldAddr x_field x_index ixx x_indexAddr iax x_makeSlice msx x_makeSliceF msf x_nilCheck newK genOf setK lookK fillA writeL writeC readC conts TyI.mk1 sliceA boundsA boundsB fitsA numA indexAddrA fieldAddrA partA fieldA indexA appendA copyA builtinA AV.cells chunk gcH reach keysT keepK inKs AV.keys AV.keysL Ty.isAgg eq1 eqL convA.go ltI w_u8 w_u32 w_u64 w_i64 w_fdiv w_tdiv w_tmod IntKind.bits unA sc_int sc_bool sc_str sc_sl sc_ref sc_ptr sc_pel sc_nilp sc_fn sc_nilf sc_if sc_nili sc_agg sc_tup sc_mem bs_pure bs_kl bs_length bs_cells bs_all sl_row sealRow sealY sl_int sl_bool sl_str sl_sl sl_nilp sl_nilf sl_nili sl_pel sl_agg sl_tup sl_fn sl_if nat_1 bs_cons bs_nil i_beq i_bne x_mkF x_mkI x_tassert x_panic s_pan s_sqp s_bkp s_finp s_fixp s_lpp s_rgp s_retp s_site s_stxN s_stxO x_callT clx El.avs_len s_dyn0 s_rgy barOf dynChk footL dynOK disjK keysOp opVals Op.operands sealA AV.scal
section
open Ab Go TabE Sp E34 F1
namespace F5
abbrev fF (p:List Int) (e:Int):AV:=.agg [.sl p.isEmpty (ns p) (some p.length),.int .i64 e]
abbrev fR (p:List Int) (e:Int):AV:=.agg [.sl p.isEmpty (ns p) (if p.isEmpty then some 0 else none),.int .i64 e]
theorem clipI (f:Bool) (xs:List AV) (c:Option Nat) (hp:AV.pureL xs=true):Con E 5 113 [.sl f xs c] (.sl f xs (some xs.length)):=by
  refine .of (g:=[]) (by simp [AV.pureL,AV.pure]) ?_
  rw [aCall_fn rfl E_fn113 (by simp [AV.pureL,AV.pure]) (Nat.le_of_ble_eq_true rfl) rfl rfl,body_113,c113]
  simp [hp]
theorem fnil (e:Int):Con E 10 114 [.int .i64 e,.sl true [] (some 0)] (fF [] e):=by
  have c:=clipI true [] (some 0) rfl 9 (by omega) 0
  refine con_of E_fn114 rfl (Nat.le_of_ble_eq_true rfl) rfl rfl (g:=[]) ?_
  rw [body_114,c114]
  try simp at c
  simp [c]
theorem fone (e x:Int) (c:Option Nat):Con E 10 114 [.int .i64 e,.sl false [.int .i64 x] c] (fF [x] e):=by
  have c:=clipI false [.int .i64 x] c rfl 9 (by omega) 0
  refine con_of E_fn114 rfl (Nat.le_of_ble_eq_true rfl) rfl rfl (g:=[]) ?_
  rw [body_114,c114]
  try simp at c
  simp [c]
theorem rnil (e x:Int) (h:x < 0):Con E 10 35 [.int .i64 e,.int .i64 x] (fR [] e):=by
  have h':¬ 0 ≤ x:=by omega
  refine con_of E_fn35 rfl (Nat.le_of_ble_eq_true rfl) rfl rfl (g:=[]) ?_
  rw [body_35,c35]
  simp [h,h']
theorem rone (e x:Int) (h:0 ≤ x):Con E 10 35 [.int .i64 e,.int .i64 x] (fR [x] e):=by
  refine con_of E_fn35 rfl (Nat.le_of_ble_eq_true rfl) rfl rfl (g:=[]) ?_
  rw [body_35,c35]
  simp [h]
end F5
end
end
section
open Ab Go TabE Sp E34 F1
namespace Rw
def row {α:Type} (f:α → List AV) (l:List α):List AV:=l.flatMap f
variable {α:Type} {f:α → List AV} {n:Nat}
theorem pureL_app:∀ a b:List AV,AV.pureL (a ++ b)=(AV.pureL a && AV.pureL b)
  | [],b => by simp [AV.pureL]
  | x :: a,b => by simp only [List.cons_append,AV.pureL,pureL_app a b,Bool.and_assoc]
end Rw
namespace F6
open Rw
structure Fld where
  c:Int
  k:Bool
  n:Int
  any:Bool
  opt:Bool
def Fld.cells (x:Fld):List AV:=[.int .u8 x.c,.bool x.k,.int .u32 x.n,.bool x.any,.bool x.opt]
abbrev Fld.av (x:Fld):AV:=.agg x.cells
structure Fa where
  t:Int
  m:Int
def Fa.av (x:Fa):AV:=.agg [.int .u8 x.t,.int .u8 x.m]
def Fa.ok (x:Fa):Prop:=(0 ≤ x.t ∧ x.t < 256) ∧ (0 ≤ x.m ∧ x.m < 256)
end F6
end
section
open Ab Go TabE
attribute [local simp ↓] s_seq s_reg s_regd s_cond s_block s_cons s_consG s_regD
attribute [local simp] s_nil s_loop s_round s_lpn s_lpe s_lpr firstReg s_gt s_gf s_wb s_wu s_val s_valN s_skip s_calls s_callP s_cax lookR flatR pureKs s_ret s_rgx s_sqn s_sqr s_sqe s_cdb s_bkn s_bkr s_bke s_exit s_ret' s_skip' s_finr s_finn s_fin1 s_fix s_clean s_gc0 o_tmp o_int o_bool o_nil o_str o_fn o_nil' l_hit l_miss l_nil ol_nil ol_cons ol_some x_move x_assign x_pick pk_t pk_f x_bin bn_s x_un x_extract x_callF cl_no x_callB x_callBF frzV x_conv cvx convA frame0 binA intOp resL resA results1 sealLW AV.pure AV.pureL keepT x_alloc x_box bxx x_build bdx x_buildSlice bsx x_buildSliceF bsf x_load ldx x_store stx x_slice slx x_fieldAddr x_field x_index ixx x_indexAddr iax x_makeSlice msx x_makeSliceF msf x_nilCheck newK genOf setK lookK fillA writeL writeC readC conts TyI.mk1 sliceA boundsA boundsB fitsA numA indexAddrA fieldAddrA partA fieldA indexA appendA copyA builtinA AV.cells chunk gcH reach keysT keepK inKs AV.keys AV.keysL Ty.isAgg eq1 eqL convA.go ltI w_u8 w_u32 w_u64 w_i64 w_fdiv w_tdiv w_tmod IntKind.bits unA sc_int sc_bool sc_str sc_sl sc_ref sc_ptr sc_pel sc_nilp sc_fn sc_nilf sc_if sc_nili sc_agg sc_tup sc_mem bs_pure bs_kl bs_length bs_cells bs_all sl_row sealRow sealY sl_int sl_bool sl_str sl_sl sl_nilp sl_nilf sl_nili sl_pel sl_agg sl_tup sl_fn sl_if nat_1 bs_cons bs_nil i_beq i_bne x_mkF x_mkI x_tassert x_panic s_pan s_sqp s_bkp s_finp s_fixp s_lpp s_rgp s_retp s_site s_stxN s_stxO x_callT clx El.avs_len s_dyn0 s_rgy barOf dynChk footL dynOK disjK keysOp opVals Op.operands
section
open Ab Go TabE Sp E34 F1 Rw F5 F6
namespace F7
def mt (x:Fld) (y:El):Bool:=x.any || (decide (x.c=y.c) && (decide (x.k=y.k) && decide (x.n=y.n)))
theorem matches_ (x:Fld) (y:El):Con E 10 115 [x.av,y.av] (.bool (mt x y)):=by
  refine con_of E_fn115 (by simp [AV.pureL,AV.pure,El.av_pure,Fld.cells]) (Nat.le_of_ble_eq_true rfl) rfl rfl (g:=[]) ?_
  rw [body_115,c115]
  unfold mt
  cases ha:x.any
  · by_cases a:x.c=y.c <;> by_cases b:x.k=y.k <;> by_cases c:x.n=y.n <;> simp [El.av_eq,Fld.cells,ha,a,b,c,fitZ]
  · simp [El.av_eq,Fld.cells,ha,fitZ]
def sqr (s:List El):List Fld → Nat → List Int → (List Int × Nat) ⊕ (Int × List Int)
  | [],j,o => .inl (o,j)
  | x :: r,j,o => match s[j]? with
    | some y => if mt x y=true then sqr s r (j + 1) (o ++ [(j:Int)]) else if x.opt=true then sqr s r j (o ++ [-1]) else .inr (9,[(j:Int)])
    | none => if x.opt=true then sqr s r j (o ++ [-1]) else .inr (7,[])
theorem fd_at (f c) (l:List Fld) (i:Nat) (x:Fld) (h:l[i]? = some x):∀ hp,indexAddrA E 76 (.sl f (l.map Fld.av) c) (.int .i64 i) hp=some (.pel [.int .u8 x.c,.bool x.k,.int .u32 x.n,.bool x.any,.bool x.opt]):=by
  intro hp
  have hi:i < l.length:=(List.getElem?_eq_some_iff.1 h).1
  unfold indexAddrA
  simp only [E_ty76,E_ty75]
  rw [if_pos ⟨by omega,by rw [List.length_map]; omega⟩]
  simp only [Int.toNat_natCast,List.getElem?_map,h,Option.map_some]
  rfl
def zr (z:Nat):List AV:=List.replicate z (.int .i64 0)
theorem zr_eq (z:Nat):List.replicate z (AV.int .i64 0)=zr z:=rfl
theorem zr_len (z:Nat):(zr z).length=z:=List.length_replicate
theorem zr_ns (z:Nat):zr z=ns (List.replicate z 0):=by simp [zr,ns]
theorem zr_pure (z:Nat):AV.pureL (zr z)=true:=by rw [zr_ns]; exact ns_pure _
theorem zr_keys (z:Nat):AV.keysL (zr z)=[]:=AV.keysL_pure _ (zr_pure z)
abbrev rw_ (o:List Int) (z:Nat):AObj:=⟨ns o ++ zr z,true,true,true,1,false⟩
theorem rw_keys (o z):AV.keysL (ns o ++ zr z)=[]:=by rw [El.keysL_app,ns_keys,zr_keys]; rfl
theorem rw_len (o z):(ns o ++ zr z).length=o.length + z:=by rw [List.length_append,ns_len,zr_len]
theorem rw_take (o:List Int) (z):(ns o ++ zr z).take o.length=ns o:=by rw [← ns_len o,List.take_left']; rfl
theorem rw_drop (o:List Int) (z):(ns o ++ zr (z + 1)).drop (o.length + 1)=zr z:=by
  have:(ns o ++ zr (z + 1)).drop (o.length + 1)=((ns o ++ zr (z + 1)).drop (ns o).length).drop 1:=by rw [List.drop_drop,ns_len]
  rw [this,List.drop_left']; rfl
  rfl
def b45:Code:=lp c69 0
abbrev S (f:Bool) (c:Option Nat) (l:List Fld) (e:El) (i j:Nat) (o:List Int) (z:Nat):St:=⟨[(3,.ptr (1,3,0) 0),(7,.ptr (1,7,0) 0),(8,.int .i64 (j:Int)),(9,.ref (1,26,0) 0 o.length (some l.length)),(27,.sl f (l.map Fld.av) c),(28,.int .i64 (l.length:Int)),(29,.int .i64 (i:Int))],[((1,3,0),bx (ec e)),((1,7,0),bx [.sl true [] (some 0),.int .i64 0]),((1,26,0),rw_ o z)]⟩
abbrev MC (q:Nat) (x:Fld) (y:El):Prop:=∀ h,aCall E q 0 115 [x.av,y.av] h=some (.ret (.bool (mt x y)),h)
abbrev Bad (p:List Int) (e:Int):Option (AExit × St):=some (.ret,⟨[(6,.sl true [] (some 0)),(7,.ptr (1,7,0) 0)],[((1,7,0),bx [.sl p.isEmpty (ns p) (some p.length),.int .i64 e])]⟩)
theorem hit (q k1:Nat) (f c) (l:List Fld) (e y:El) (i j:Nat) (o:List Int) (z:Nat) (x:Fld) (hx:l[i]? = some x) (hy:e.s[j]? = some y) (ll:l.length ≤ 1000) (hz:o.length + (z + 1)=l.length) (ls:e.s.length ≤ 9223372036854775807) (M:MC q x y) (m:mt x y=true) :
    rndO fn69 b45 q k1 (S f c l e i j o (z + 1))=some (.normal,S f c l e (i + 1) (j + 1) (o ++ [(j:Int)]) z):=by
  have hi:i < l.length:=(List.getElem?_eq_some_iff.1 hx).1
  have hj:j < e.s.length:=(List.getElem?_eq_some_iff.1 hy).1
  have ix:=fd_at f c l i x hx
  have iy:=fun hp => El.at_ e.fs e.cs e.s j y hy hp
  have w:=w64' ((i:Int) + 1) (by omega) (by omega)
  have w2:=w64' ((j:Int) + 1) (by omega) (by omega)
  rw [MC,El.av_eq,Fld.av,Fld.cells,m] at M
  have fit:o.length + 1 ≤ l.length:=by omega
  have fit2:o.length ≤ l.length:=by omega
  have k0:=rw_keys o (z + 1)
  have k1':=rw_keys (o ++ [(j:Int)]) z
  have e1:ns (o ++ [(j:Int)])=ns o ++ [.int .i64 (j:Int)]:=ns_app _ _
  rw [e1] at k1'
  simp at k1'
  simp [b45,lp,lps,c69,-indexAddrA,ix,iy,w,w2,hi,hj,M,fit,fit2,k0,k1',e1,rw_len,rw_take,rw_drop,zr_len,hz]
theorem opt (q k1:Nat) (f c) (l:List Fld) (e:El) (i j:Nat) (o:List Int) (z:Nat) (x:Fld) (hx:l[i]? = some x) (ll:l.length ≤ 1000) (hz:o.length + (z + 1)=l.length) (ls:e.s.length ≤ 9223372036854775807) (M:∀ y,e.s[j]? = some y → MC q x y ∧ mt x y=false) (ho:x.opt=true) :
    rndO fn69 b45 q k1 (S f c l e i j o (z + 1))=some (.normal,S f c l e (i + 1) j (o ++ [-1]) z):=by
  have hi:i < l.length:=(List.getElem?_eq_some_iff.1 hx).1
  have ix:=fd_at f c l i x hx
  have w:=w64' ((i:Int) + 1) (by omega) (by omega)
  have fit:o.length + 1 ≤ l.length:=by omega
  have fit2:o.length ≤ l.length:=by omega
  have k0:=rw_keys o (z + 1)
  have k1':=rw_keys (o ++ [-1]) z
  have e1:ns (o ++ [-1])=ns o ++ [.int .i64 (-1)]:=ns_app _ _
  rw [e1] at k1'
  simp at k1'
  cases hy:e.s[j]? with
  | none =>
    have hj:=List.getElem?_eq_none_iff.1 hy
    have hj':¬ j < e.s.length:=by omega
    simp [b45,lp,lps,c69,-indexAddrA,ix,w,hi,hj',ho,fit,fit2,k0,k1',e1,rw_len,rw_take,rw_drop,zr_len,hz]
  | some y =>
    have hj:j < e.s.length:=(List.getElem?_eq_some_iff.1 hy).1
    have iy:=fun hp => El.at_ e.fs e.cs e.s j y hy hp
    obtain ⟨M,m⟩:=M y hy
    rw [MC,El.av_eq,Fld.av,Fld.cells,m,ho] at M
    simp [b45,lp,lps,c69,-indexAddrA,ix,iy,w,hi,hj,M,ho,fit,fit2,k0,k1',e1,rw_len,rw_take,rw_drop,zr_len,hz]
theorem short (q k1:Nat) (f c) (l:List Fld) (e:El) (i:Nat) (o:List Int) (z:Nat) (x:Fld) (hx:l[i]? = some x) (ll:l.length ≤ 1000) (ho:x.opt=false) (F:∀ h,aCall E q 0 114 [.int .i64 7,.sl true [] (some 0)] h=some (.ret (fF [] 7),h)) :
    rndO fn69 b45 q k1 (S f c l e i e.s.length o z)=Bad [] 7:=by
  have hi:i < l.length:=(List.getElem?_eq_some_iff.1 hx).1
  have ix:=fd_at f c l i x hx
  have k0:=rw_keys o z
  simp [fF] at F
  simp [b45,lp,lps,c69,-indexAddrA,ix,hi,ho,k0,F]
theorem wrong (q k1:Nat) (f c) (l:List Fld) (e y:El) (i j:Nat) (o:List Int) (z:Nat) (x:Fld) (hx:l[i]? = some x) (hy:e.s[j]? = some y) (ll:l.length ≤ 1000) (ls:e.s.length ≤ 9223372036854775807) (M:MC q x y) (m:mt x y=false) (ho:x.opt=false) (F:∀ h,aCall E q 0 114 [.int .i64 9,.sl false [.int .i64 (j:Int)] (some 1)] h=some (.ret (fF [(j:Int)] 9),h)) :
    rndO fn69 b45 q k1 (S f c l e i j o z)=Bad [(j:Int)] 9:=by
  have hi:i < l.length:=(List.getElem?_eq_some_iff.1 hx).1
  have hj:j < e.s.length:=(List.getElem?_eq_some_iff.1 hy).1
  have hj2:¬ j=e.s.length:=by omega
  have hj3:¬ (j:Int)=e.s.length:=by omega
  have ix:=fd_at f c l i x hx
  have iy:=fun hp => El.at_ e.fs e.cs e.s j y hy hp
  have k0:=rw_keys o z
  rw [MC,El.av_eq,Fld.av,Fld.cells,m,ho] at M
  simp [fF] at F
  simp [b45,lp,lps,c69,-indexAddrA,ix,iy,hi,hj,hj2,hj3,ho,k0,F,M]
theorem last (q k1:Nat) (f c) (l:List Fld) (e:El) (j:Nat) (o:List Int) (z:Nat):rndO fn69 b45 q k1 (S f c l e l.length j o z)=some (.exit 1,⟨(S f c l e l.length j o z).t ++ [(30,.bool false)],(S f c l e l.length j o z).h⟩):=by
  have k0:=rw_keys o z
  simp [b45,lp,lps,c69,k0]
end F7
end
section
open Ab Go TabE Sp E34 F1 Rw F5 F6 F7
namespace F8
theorem sqr_len (s:List El):∀ (r:List Fld) (j:Nat) (o:List Int) (o':List Int) (j':Nat),j ≤ s.length → sqr s r j o=.inl (o',j') → o'.length=o.length + r.length ∧ j' ≤ s.length
  | [],j,o,o',j',hj,h => by unfold sqr at h; cases h; simp [hj]
  | x :: r,j,o,o',j',hj,h => by
    unfold sqr at h
    cases hy:s[j]? with
    | none =>
      rw [hy] at h
      simp only at h
      split at h
      · have:=sqr_len s r j _ o' j' hj h; simp at this ⊢; omega
      · cases h
    | some y =>
      rw [hy] at h
      have hl:j < s.length:=(List.getElem?_eq_some_iff.1 hy).1
      simp only at h
      split at h
      · have:=sqr_len s r (j + 1) _ o' j' (by omega) h; simp at this ⊢; omega
      · split at h
        · have:=sqr_len s r j _ o' j' hj h; simp at this ⊢; omega
        · cases h
def sq (e:El) (t:Int × Bool × Int) (l:List Fld):List Int ⊕ (Int × List Int) :=
  if 256 < l.length then .inr (3,[]) else if ¬ (e.c=t.1 ∧ e.k=t.2.1 ∧ e.n=t.2.2) then .inr (9,[]) else
  match sqr e.s l 0 [] with
  | .inr p => .inr p
  | .inl (o,j) => if j < e.s.length then .inr (8,[(j:Int)]) else .inl o
def qF:List Int ⊕ (Int × List Int) → AV
  | .inl o => .tup [.sl false (ns o) (some o.length),fF [] 0]
  | .inr (e,p) => .tup [.sl true [] (some 0),fF p e]
abbrev Lp (K:Nat):=aLoop (aCode E (site fn69 (aRun E K)) (dcall (aRun E K)) K 1 fn69 b45) (cleanS 1 ((firstReg b45).bind fn69.head))
theorem loop (K:Nat) (hK:30 ≤ K) (f c) (l:List Fld) (e:El) (ll:l.length ≤ 1000) (ls:e.s.length ≤ 9223372036854775807):∀ (r:List Fld) (i j:Nat) (o:List Int) (k:Nat),l.drop i=r → i + r.length=l.length → j ≤ e.s.length → o.length + r.length=l.length → r.length < k →
    Lp K k (F7.S f c l e i j o r.length)=(match sqr e.s r j o with
      | .inl (o',j') => some (.exit 1,⟨(F7.S f c l e l.length j' o' 0).t ++ [(30,.bool false)],(F7.S f c l e l.length j' o' 0).h⟩)
      | .inr (er,p) => Bad p er)
  | [],i,j,o,k,h1,h2,h3,h4,h5 => by
    obtain ⟨k,rfl⟩:∃ q,k=q + 1:=⟨k - 1,by omega⟩
    simp at h2
    subst h2
    exact aLoop_end (last K K f c l e j o 0) (by simp)
  | x :: r,i,j,o,k,h1,h2,h3,h4,h5 => by
    obtain ⟨k,rfl⟩:∃ q,k=q + 1:=⟨k - 1,by omega⟩
    simp only [List.length_cons] at h2 h4 h5 ⊢
    have hx:l[i]? = some x:=by
      have:=congrArg (fun l => l[0]?) h1
      simpa [List.getElem?_drop] using this
    have hd:l.drop (i + 1)=r:=by
      have:=congrArg List.tail h1
      simpa [List.tail_drop] using this
    have M:∀ y,MC K x y:=fun y h => matches_ x y K (by omega) 0 h
    unfold sqr
    have goOpt:x.opt=true → (∀ y,e.s[j]? = some y → mt x y=false) → Lp K (k + 1) (F7.S f c l e i j o (r.length + 1))=(match sqr e.s r j (o ++ [-1]) with
      | .inl (o',j') => some (.exit 1,⟨(F7.S f c l e l.length j' o' 0).t ++ [(30,.bool false)],(F7.S f c l e l.length j' o' 0).h⟩)
      | .inr (er,p) => Bad p er):=fun ho hm => by
      have I:=loop K hK f c l e ll ls r (i + 1) j (o ++ [-1]) k hd (by omega) h3 (by rw [List.length_append]; simp; omega) (by omega)
      exact (aLoop_succ (opt K K f c l e i j o r.length x hx ll (by omega) ls (fun y hy => ⟨M y,hm y hy⟩) ho)).trans I
    cases hy:e.s[j]? with
    | none =>
      have hj:=List.getElem?_eq_none_iff.1 hy
      obtain rfl:j=e.s.length:=by omega
      simp only
      by_cases ho:x.opt=true
      · rw [if_pos ho]; exact goOpt ho fun y h => by rw [hy] at h; cases h
      · rw [if_neg ho]
        exact aLoop_end (short K K f c l e i o (r.length + 1) x hx ll (by simpa using ho) fun h => fnil 7 K (by omega) 0 h) (by simp)
    | some y =>
      have hj:j < e.s.length:=(List.getElem?_eq_some_iff.1 hy).1
      simp only
      by_cases m:mt x y=true
      · rw [if_pos m]
        have I:=loop K hK f c l e ll ls r (i + 1) (j + 1) (o ++ [(j:Int)]) k hd (by omega) (by omega) (by rw [List.length_append]; simp; omega) (by omega)
        exact (aLoop_succ (hit K K f c l e y i j o r.length x hx hy ll (by omega) ls (M y) m)).trans I
      rw [if_neg m]
      have m':mt x y=false:=by simpa using m
      by_cases ho:x.opt=true
      · rw [if_pos ho]; exact goOpt ho fun y' h => by rw [hy] at h; cases h; exact m'
      · rw [if_neg ho]
        exact aLoop_end (wrong K K f c l e y i j o (r.length + 1) x hx hy ll ls (M y) m' (by simpa using ho) fun h => fone 9 j (some 1) K (by omega) 0 h) (by simp)
theorem sequence (f c) (l:List Fld) (e:El) (t:Int × Bool × Int) (ls:e.s.length ≤ 9223372036854775807) (l2:l.length ≤ 9223372036854775807):Con E (l.length + 60) 69 [e.av,.agg [.int .u8 t.1,.bool t.2.1,.int .u32 t.2.2],.sl f (l.map Fld.av) c] (qF (sq e t l)):=by
  obtain ⟨K,hK⟩:∃ K,l.length + 59=K:=⟨_,rfl⟩
  have eK:l.length + 60=K + 1:=by omega
  rw [eK]
  have f3:=fnil 3 K (by omega) 0
  have f9:=fnil 9 K (by omega) 0
  try simp [fF] at f3
  try simp [fF] at f9
  refine con_ofO E_fn69 (by simp [AV.pureL,AV.pure,El.av_pure]) (Nat.le_of_ble_eq_true rfl) rfl (g:=[]) ?_
  rw [body_69,c69]
  unfold sq
  by_cases big:256 < l.length
  · have big':(256:Int) < l.length:=by omega
    rw [if_pos big]
    simp [El.av_eq,big,big',f3,qF]
  rw [if_neg big]
  have big':¬ (256:Int) < l.length:=by omega
  by_cases a:e.c=t.1
  case neg => simp [El.av_eq,big,big',a,f9,qF,fitZ]
  by_cases b:e.k=t.2.1
  case neg => simp [El.av_eq,big,big',a,b,f9,qF,fitZ]
  by_cases d:e.n=t.2.2
  case neg => simp [El.av_eq,big,big',a,b,d,f9,qF,fitZ]
  rw [if_neg (fun h => h ⟨a,b,d⟩)]
  have L:=loop K (by omega) f c l e (by omega) ls l 0 0 [] K rfl (by omega) (by omega) (by simp) (by omega)
  have zz:=zr_eq l.length
  have mk:(l.length:Int) ≤ 70368744177664:=by omega
  have mk2:(l.length:Int) * 8 ≤ 70368744177664:=by omega
  have n0:(0:Int) ≤ (l.length:Int):=by omega
  have k0:=rw_keys [] l.length
  cases hr:sqr e.s l 0 [] with
  | inr p =>
    obtain ⟨er,p⟩:=p
    rw [hr] at L
    simp only [qF,fF]
    simp [F8.Lp,b45,lp,lps,c69,firstReg,F7.S,bx,ec,a,b,d,rw_] at L
    simp at k0
    simp [El.av_eq,-s_round,big,big',a,b,d,fitZ,L,zz,mk,mk2,k0,zr_len,zr_pure]
  | inl p =>
    obtain ⟨o,j⟩:=p
    have ln:=sqr_len e.s l 0 [] o j (by omega) hr
    simp at ln
    rw [hr] at L
    simp [F8.Lp,b45,lp,lps,c69,firstReg,F7.S,bx,ec,a,b,d,rw_] at L
    simp at k0
    have z0:zr 0=[]:=rfl
    rw [z0] at L
    simp at L
    have kj:=ns_keys o
    have pj:=ns_pure o
    have lj:=ns_len o
    simp only
    by_cases hj:j < e.s.length
    · have hj':(j:Int) < e.s.length:=by omega
      have f8:=fone 8 j (some 1) K (by omega) 0
      simp [fF] at f8
      rw [if_pos hj,qF]
      simp [El.av_eq,-s_round,big,big',a,b,d,fitZ,L,zz,mk,mk2,k0,zr_len,zr_pure,hj,hj',f8,kj,pj]
    · have hj':¬ (j:Int) < e.s.length:=by omega
      rw [if_neg hj,qF]
      simp [El.av_eq,-s_round,big,big',a,b,d,fitZ,L,zz,mk,mk2,k0,zr_len,zr_pure,hj,hj',kj,pj,lj,ln.1]
end F8
end
section
open Ab Go TabE Sp E34 F1 Rw F5 F6 F7 F8
namespace F9
def b46:Code:=lp c36 0
abbrev S0 (f:Bool) (c:Option Nat) (l:List Fld) (e:El) (i j:Nat):St:=⟨[(2,.sl f (l.map Fld.av) c),(3,.ptr (1,3,0) 0),(7,.ptr (1,7,0) 0),(8,.sl true [] (some 0)),(9,.int .i64 (j:Int)),(10,.int .i64 (i:Int))],[((1,3,0),bx (ec e)),((1,7,0),bx [.sl true [] (some 0),.int .i64 0])]⟩
abbrev SR (f:Bool) (c:Option Nat) (l:List Fld) (e:El) (i j:Nat) (o:List Int) (key:Key):St:=⟨[(2,.sl f (l.map Fld.av) c),(3,.ptr (1,3,0) 0),(7,.ptr (1,7,0) 0),(8,.ref key 0 o.length none),(9,.int .i64 (j:Int)),(10,.int .i64 (i:Int))],[((1,3,0),bx (ec e)),((1,7,0),bx [.sl true [] (some 0),.int .i64 0]),(key,⟨ns o,true,true,false,1,false⟩)]⟩
abbrev Ky (key:Key):Prop:=∃ g,key=(1,55,g) ∨ key=(1,65,g)
abbrev Bad (p:List Int) (e:Int):Option (AExit × St):=some (.ret,⟨[(6,.sl true [] (some 0)),(7,.ptr (1,7,0) 0)],[((1,7,0),bx [.sl p.isEmpty (ns p) (if p.isEmpty then some 0 else none),.int .i64 e])]⟩)
theorem mt_cases (x:Fld) (y:El):(F7.mt x y=true ∧ (x.any=true ∨ (x.any=false ∧ x.c=y.c ∧ x.k=y.k ∧ x.n=y.n))) ∨ (F7.mt x y=false ∧ x.any=false ∧ (¬ x.c=y.c ∨ (x.c=y.c ∧ ¬ x.k=y.k) ∨ (x.c=y.c ∧ x.k=y.k ∧ ¬ x.n=y.n))):=by
  unfold F7.mt
  cases ha:x.any
  · by_cases a:x.c=y.c
    · by_cases b:x.k=y.k
      · by_cases c:x.n=y.n
        · exact .inl ⟨by simp [a,b,c],.inr ⟨rfl,a,b,c⟩⟩
        · exact .inr ⟨by simp [a,b,c],rfl,.inr (.inr ⟨a,b,c⟩)⟩
      · exact .inr ⟨by simp [a,b],rfl,.inr (.inl ⟨a,b⟩)⟩
    · exact .inr ⟨by simp [a],rfl,.inl a⟩
  · exact .inl ⟨by simp,.inl rfl⟩
theorem hit0 (q k1:Nat) (f c) (l:List Fld) (e y:El) (i j:Nat) (x:Fld) (hx:l[i]? = some x) (hy:e.s[j]? = some y) (ll:l.length ≤ 1000) (ls:e.s.length ≤ 9223372036854775807) (m:F7.mt x y=true) :
    rnd fn36 b46 q k1 (S0 f c l e i j)=some (.normal,SR f c l e (i + 1) (j + 1) [(j:Int)] (1,55,0)):=by
  have hi:i < l.length:=(List.getElem?_eq_some_iff.1 hx).1
  have hj:j < e.s.length:=(List.getElem?_eq_some_iff.1 hy).1
  have ix:=fd_at f c l i x hx
  have iy:=fun hp => El.at_ e.fs e.cs e.s j y hy hp
  have w:=w64' ((i:Int) + 1) (by omega) (by omega)
  have w2:=w64' ((j:Int) + 1) (by omega) (by omega)
  rcases mt_cases x y with ⟨_,ha | ⟨ha,a1,a2,a3⟩⟩ | ⟨h,_⟩
  · simp [b46,lp,lps,c36,-indexAddrA,ix,iy,w,w2,hi,hj,ha]
  · simp [b46,lp,lps,c36,-indexAddrA,ix,iy,w,w2,hi,hj,ha,a1,a2,a3,fitZ]
  · rw [m] at h; cases h
theorem hitR (q k1:Nat) (f c) (l:List Fld) (e y:El) (i j:Nat) (o:List Int) (key:Key) (hk:Ky key) (x:Fld) (hx:l[i]? = some x) (hy:e.s[j]? = some y) (ll:l.length ≤ 1000) (lo:o.length ≤ 1000) (ls:e.s.length ≤ 9223372036854775807) (m:F7.mt x y=true) :
    ∃ key',Ky key' ∧ rnd fn36 b46 q k1 (SR f c l e i j o key)=some (.normal,SR f c l e (i + 1) (j + 1) (o ++ [(j:Int)]) key'):=by
  have hi:i < l.length:=(List.getElem?_eq_some_iff.1 hx).1
  have hj:j < e.s.length:=(List.getElem?_eq_some_iff.1 hy).1
  have ix:=fd_at f c l i x hx
  have iy:=fun hp => El.at_ e.fs e.cs e.s j y hy hp
  have w:=w64' ((i:Int) + 1) (by omega) (by omega)
  have w2:=w64' ((j:Int) + 1) (by omega) (by omega)
  have cs5:(o.length + 1) * 8 ≤ 70368744177664:=by omega
  have k0:=ns_keys o
  have p0:=ns_pure o
  have s0:=ns_scal o
  have l0:=ns_len o
  have k2:=ns_keys (o ++ [(j:Int)])
  have e1:ns (o ++ [(j:Int)])=ns o ++ [.int .i64 (j:Int)]:=ns_app _ _
  rw [e1] at k2
  refine ⟨(1,55,if key.2.1=55 then key.2.2 + 1 else 0),⟨_,.inl rfl⟩,?_⟩
  rcases mt_cases x y with ⟨_,ha | ⟨ha,a1,a2,a3⟩⟩ | ⟨h,_⟩
  · obtain ⟨g,rfl | rfl⟩:=hk <;> simp [b46,lp,lps,c36,-indexAddrA,ix,iy,w,w2,hi,hj,ha,cs5,k0,p0,s0,l0,k2,e1]
  · obtain ⟨g,rfl | rfl⟩:=hk <;> simp [b46,lp,lps,c36,-indexAddrA,ix,iy,w,w2,hi,hj,ha,a1,a2,a3,fitZ,cs5,k0,p0,s0,l0,k2,e1]
  · rw [m] at h; cases h
theorem opt0 (q k1:Nat) (f c) (l:List Fld) (e:El) (i j:Nat) (x:Fld) (hx:l[i]? = some x) (ll:l.length ≤ 1000) (ls:e.s.length ≤ 9223372036854775807) (M:∀ y,e.s[j]? = some y → F7.mt x y=false) (ho:x.opt=true) :
    rnd fn36 b46 q k1 (S0 f c l e i j)=some (.normal,SR f c l e (i + 1) j [-1] (1,65,0)):=by
  have hi:i < l.length:=(List.getElem?_eq_some_iff.1 hx).1
  have ix:=fd_at f c l i x hx
  have w:=w64' ((i:Int) + 1) (by omega) (by omega)
  cases hy:e.s[j]? with
  | none =>
    have hj:=List.getElem?_eq_none_iff.1 hy
    have hj':¬ j < e.s.length:=by omega
    simp [b46,lp,lps,c36,-indexAddrA,ix,w,hi,hj',ho]
  | some y =>
    have hj:j < e.s.length:=(List.getElem?_eq_some_iff.1 hy).1
    have iy:=fun hp => El.at_ e.fs e.cs e.s j y hy hp
    rcases mt_cases x y with ⟨h,_⟩ | ⟨_,ha,a1 | ⟨a1,a2⟩ | ⟨a1,a2,a3⟩⟩
    · rw [M y hy] at h; cases h
    · simp [b46,lp,lps,c36,-indexAddrA,ix,iy,w,hi,hj,ho,ha,a1,fitZ]
    · simp [b46,lp,lps,c36,-indexAddrA,ix,iy,w,hi,hj,ho,ha,a1,a2,fitZ]
    · simp [b46,lp,lps,c36,-indexAddrA,ix,iy,w,hi,hj,ho,ha,a1,a2,a3,fitZ]
theorem optR (q k1:Nat) (f c) (l:List Fld) (e:El) (i j:Nat) (o:List Int) (key:Key) (hk:Ky key) (x:Fld) (hx:l[i]? = some x) (ll:l.length ≤ 1000) (lo:o.length ≤ 1000) (ls:e.s.length ≤ 9223372036854775807) (M:∀ y,e.s[j]? = some y → F7.mt x y=false) (ho:x.opt=true) :
    ∃ key',Ky key' ∧ rnd fn36 b46 q k1 (SR f c l e i j o key)=some (.normal,SR f c l e (i + 1) j (o ++ [-1]) key'):=by
  have hi:i < l.length:=(List.getElem?_eq_some_iff.1 hx).1
  have ix:=fd_at f c l i x hx
  have w:=w64' ((i:Int) + 1) (by omega) (by omega)
  have cs5:(o.length + 1) * 8 ≤ 70368744177664:=by omega
  have k0:=ns_keys o
  have p0:=ns_pure o
  have s0:=ns_scal o
  have l0:=ns_len o
  have k2:=ns_keys (o ++ [-1])
  have e1:ns (o ++ [-1])=ns o ++ [.int .i64 (-1)]:=ns_app _ _
  rw [e1] at k2
  refine ⟨(1,65,if key.2.1=65 then key.2.2 + 1 else 0),⟨_,.inr rfl⟩,?_⟩
  cases hy:e.s[j]? with
  | none =>
    have hj:=List.getElem?_eq_none_iff.1 hy
    have hj':¬ j < e.s.length:=by omega
    obtain ⟨g,rfl | rfl⟩:=hk <;> simp [b46,lp,lps,c36,-indexAddrA,ix,w,hi,hj',ho,cs5,k0,p0,s0,l0,k2,e1]
  | some y =>
    have hj:j < e.s.length:=(List.getElem?_eq_some_iff.1 hy).1
    have iy:=fun hp => El.at_ e.fs e.cs e.s j y hy hp
    rcases mt_cases x y with ⟨h,_⟩ | ⟨_,ha,a1 | ⟨a1,a2⟩ | ⟨a1,a2,a3⟩⟩
    · rw [M y hy] at h; cases h
    · obtain ⟨g,rfl | rfl⟩:=hk <;> simp [b46,lp,lps,c36,-indexAddrA,ix,iy,w,hi,hj,ho,ha,a1,fitZ,cs5,k0,p0,s0,l0,k2,e1]
    · obtain ⟨g,rfl | rfl⟩:=hk <;> simp [b46,lp,lps,c36,-indexAddrA,ix,iy,w,hi,hj,ho,ha,a1,a2,fitZ,cs5,k0,p0,s0,l0,k2,e1]
    · obtain ⟨g,rfl | rfl⟩:=hk <;> simp [b46,lp,lps,c36,-indexAddrA,ix,iy,w,hi,hj,ho,ha,a1,a2,a3,fitZ,cs5,k0,p0,s0,l0,k2,e1]
end F9
end
section
open Ab Go TabE Sp E34 F1 Rw F5 F6 F7 F8 F9
namespace F10
abbrev RC (q:Nat) (e x:Int) (v:AV):Prop:=∀ h,aCall E q 0 35 [.int .i64 e,.int .i64 x] h=some (.ret v,h)
theorem short0 (q k1:Nat) (f c) (l:List Fld) (e:El) (i:Nat) (x:Fld) (hx:l[i]? = some x) (ho:x.opt=false) (F:RC q 7 (-1) (fR [] 7)) :
    rnd fn36 b46 q k1 (F9.S0 f c l e i e.s.length)=F9.Bad [] 7:=by
  have hi:i < l.length:=(List.getElem?_eq_some_iff.1 hx).1
  have ix:=fd_at f c l i x hx
  unfold RC at F
  try simp [fR] at F
  simp [b46,lp,lps,c36,-indexAddrA,ix,hi,ho,F]
theorem shortR (q k1:Nat) (f c) (l:List Fld) (e:El) (i:Nat) (o:List Int) (key:Key) (hk:Ky key) (x:Fld) (hx:l[i]? = some x) (ho:x.opt=false) (F:RC q 7 (-1) (fR [] 7)) :
    rnd fn36 b46 q k1 (F9.SR f c l e i e.s.length o key)=F9.Bad [] 7:=by
  have hi:i < l.length:=(List.getElem?_eq_some_iff.1 hx).1
  have ix:=fd_at f c l i x hx
  have k0:=ns_keys o
  unfold RC at F
  try simp [fR] at F
  obtain ⟨g,rfl | rfl⟩:=hk <;> simp [b46,lp,lps,c36,-indexAddrA,ix,hi,ho,F,k0]
theorem wrong0 (q k1:Nat) (f c) (l:List Fld) (e y:El) (i j:Nat) (x:Fld) (hx:l[i]? = some x) (hy:e.s[j]? = some y) (ls:e.s.length ≤ 9223372036854775807) (m:F7.mt x y=false) (ho:x.opt=false) (F:RC q 9 j (fR [(j:Int)] 9)) :
    rnd fn36 b46 q k1 (F9.S0 f c l e i j)=F9.Bad [(j:Int)] 9:=by
  have hi:i < l.length:=(List.getElem?_eq_some_iff.1 hx).1
  have hj:j < e.s.length:=(List.getElem?_eq_some_iff.1 hy).1
  have hj2:¬ j=e.s.length:=by omega
  have hj3:¬ (j:Int)=e.s.length:=by omega
  have ix:=fd_at f c l i x hx
  have iy:=fun hp => El.at_ e.fs e.cs e.s j y hy hp
  unfold RC at F
  try simp [fR] at F
  rcases mt_cases x y with ⟨h,_⟩ | ⟨_,ha,a1 | ⟨a1,a2⟩ | ⟨a1,a2,a3⟩⟩
  · rw [m] at h; cases h
  · simp [b46,lp,lps,c36,-indexAddrA,ix,iy,hi,hj,hj2,hj3,ho,ha,a1,fitZ,F]
  · simp [b46,lp,lps,c36,-indexAddrA,ix,iy,hi,hj,hj2,hj3,ho,ha,a1,a2,fitZ,F]
  · simp [b46,lp,lps,c36,-indexAddrA,ix,iy,hi,hj,hj2,hj3,ho,ha,a1,a2,a3,fitZ,F]
theorem wrongR (q k1:Nat) (f c) (l:List Fld) (e y:El) (i j:Nat) (o:List Int) (key:Key) (hk:Ky key) (x:Fld) (hx:l[i]? = some x) (hy:e.s[j]? = some y) (ls:e.s.length ≤ 9223372036854775807) (m:F7.mt x y=false) (ho:x.opt=false) (F:RC q 9 j (fR [(j:Int)] 9)) :
    rnd fn36 b46 q k1 (F9.SR f c l e i j o key)=F9.Bad [(j:Int)] 9:=by
  have hi:i < l.length:=(List.getElem?_eq_some_iff.1 hx).1
  have hj:j < e.s.length:=(List.getElem?_eq_some_iff.1 hy).1
  have hj2:¬ j=e.s.length:=by omega
  have hj3:¬ (j:Int)=e.s.length:=by omega
  have ix:=fd_at f c l i x hx
  have iy:=fun hp => El.at_ e.fs e.cs e.s j y hy hp
  have k0:=ns_keys o
  unfold RC at F
  try simp [fR] at F
  rcases mt_cases x y with ⟨h,_⟩ | ⟨_,ha,a1 | ⟨a1,a2⟩ | ⟨a1,a2,a3⟩⟩
  · rw [m] at h; cases h
  · obtain ⟨g,rfl | rfl⟩:=hk <;> simp [b46,lp,lps,c36,-indexAddrA,ix,iy,hi,hj,hj2,hj3,ho,ha,a1,fitZ,F,k0]
  · obtain ⟨g,rfl | rfl⟩:=hk <;> simp [b46,lp,lps,c36,-indexAddrA,ix,iy,hi,hj,hj2,hj3,ho,ha,a1,a2,fitZ,F,k0]
  · obtain ⟨g,rfl | rfl⟩:=hk <;> simp [b46,lp,lps,c36,-indexAddrA,ix,iy,hi,hj,hj2,hj3,ho,ha,a1,a2,a3,fitZ,F,k0]
theorem last0 (q k1:Nat) (f c) (l:List Fld) (e:El) (j:Nat):rnd fn36 b46 q k1 (F9.S0 f c l e l.length j)=some (.exit 0,⟨(F9.S0 f c l e l.length j).t ++ [(23,.bool false)],(F9.S0 f c l e l.length j).h⟩):=by
  simp [b46,lp,lps,c36]
theorem lastR (q k1:Nat) (f c) (l:List Fld) (e:El) (j:Nat) (o:List Int) (key:Key) (hk:Ky key):rnd fn36 b46 q k1 (F9.SR f c l e l.length j o key)=some (.exit 0,⟨(F9.SR f c l e l.length j o key).t ++ [(23,.bool false)],(F9.SR f c l e l.length j o key).h⟩):=by
  have k0:=ns_keys o
  obtain ⟨g,rfl | rfl⟩:=hk <;> simp [b46,lp,lps,c36,k0]
def Sx (f:Bool) (c:Option Nat) (l:List Fld) (e:El) (i j:Nat) (o:List Int) (key:Key):St:=if o=[] then F9.S0 f c l e i j else F9.SR f c l e i j o key
abbrev Lp (K:Nat):=aLoop (aCode E (aCall E K) (dcall (aRun E K)) K 1 fn36 b46) (cleanS 1 ((firstReg b46).bind fn36.head))
theorem loop (K:Nat) (hK:30 ≤ K) (f c) (l:List Fld) (e:El) (ll:l.length ≤ 256) (ls:e.s.length ≤ 9223372036854775807):∀ (r:List Fld) (i j:Nat) (o:List Int) (key:Key) (k:Nat),l.drop i=r → i + r.length=l.length → j ≤ e.s.length → o.length + r.length=l.length → Ky key → r.length < k →
    (match sqr e.s r j o with
      | .inl (o',j') => ∃ key',Ky key' ∧ F10.Lp K k (Sx f c l e i j o key)=some (.exit 0,⟨(Sx f c l e l.length j' o' key').t ++ [(23,.bool false)],(Sx f c l e l.length j' o' key').h⟩)
      | .inr (er,p) => F10.Lp K k (Sx f c l e i j o key)=F9.Bad p er)
  | [],i,j,o,key,k,h1,h2,h3,h4,hk,h5 => by
    obtain ⟨k,rfl⟩:∃ q,k=q + 1:=⟨k - 1,by omega⟩
    simp at h2
    subst h2
    refine ⟨key,hk,?_⟩
    unfold Sx
    by_cases o0:o=[]
    · rw [if_pos o0]; exact aLoop_end (last0 K K f c l e j) (by simp)
    · rw [if_neg o0]; exact aLoop_end (lastR K K f c l e j o key hk) (by simp)
  | x :: r,i,j,o,key,k,h1,h2,h3,h4,hk,h5 => by
    obtain ⟨k,rfl⟩:∃ q,k=q + 1:=⟨k - 1,by omega⟩
    simp only [List.length_cons] at h2 h4 h5
    have hx:l[i]? = some x:=by
      have:=congrArg (fun l => l[0]?) h1
      simpa [List.getElem?_drop] using this
    have hd:l.drop (i + 1)=r:=by
      have:=congrArg List.tail h1
      simpa [List.tail_drop] using this
    unfold sqr
    have nx:∀ (v:Int) (j':Nat),j' ≤ e.s.length → (o=[] → ∃ key',Ky key' ∧ rnd fn36 b46 K K (F9.S0 f c l e i j)=some (.normal,F9.SR f c l e (i + 1) j' [v] key')) → (o ≠ [] → ∃ key',Ky key' ∧ rnd fn36 b46 K K (F9.SR f c l e i j o key)=some (.normal,F9.SR f c l e (i + 1) j' (o ++ [v]) key')) →
        (match sqr e.s r j' (o ++ [v]) with
          | .inl (o',j') => ∃ key',Ky key' ∧ F10.Lp K (k + 1) (Sx f c l e i j o key)=some (.exit 0,⟨(Sx f c l e l.length j' o' key').t ++ [(23,.bool false)],(Sx f c l e l.length j' o' key').h⟩)
          | .inr (er,p) => F10.Lp K (k + 1) (Sx f c l e i j o key)=F9.Bad p er):=by
      intro v j' hj' c1 c2
      have st:∃ key',Ky key' ∧ F10.Lp K (k + 1) (Sx f c l e i j o key)=F10.Lp K k (Sx f c l e (i + 1) j' (o ++ [v]) key'):=by
        have ne:¬ (o ++ [v]=[]):=by simp
        by_cases o0:o=[]
        · obtain ⟨key',q1,q2⟩:=c1 o0
          refine ⟨key',q1,?_⟩
          unfold Sx
          rw [if_pos o0,if_neg ne,o0]
          exact aLoop_succ q2
        · obtain ⟨key',q1,q2⟩:=c2 o0
          refine ⟨key',q1,?_⟩
          unfold Sx
          rw [if_neg o0,if_neg ne]
          exact aLoop_succ q2
      obtain ⟨key',q1,q2⟩:=st
      have I:=loop K hK f c l e ll ls r (i + 1) j' (o ++ [v]) key' k hd (by omega) hj' (by rw [List.length_append]; simp; omega) q1 (by omega)
      rw [q2]
      exact I
    have lo:o.length ≤ 1000:=by omega
    cases hy:e.s[j]? with
    | none =>
      have hj:=List.getElem?_eq_none_iff.1 hy
      obtain rfl:j=e.s.length:=by omega
      simp only
      by_cases ho:x.opt=true
      · rw [if_pos ho]
        exact nx (-1) e.s.length (by omega) (fun _ => ⟨_,⟨0,.inr rfl⟩,opt0 K K f c l e i e.s.length x hx (by omega) ls (fun y h => by rw [hy] at h; cases h) ho⟩) (fun _ => optR K K f c l e i e.s.length o key hk x hx (by omega) lo ls (fun y h => by rw [hy] at h; cases h) ho)
      · rw [if_neg ho]
        have ho':x.opt=false:=by simpa using ho
        have F:RC K 7 (-1) (fR [] 7):=fun h => rnil 7 (-1) (by omega) K (by omega) 0 h
        show F10.Lp K (k + 1) (Sx f c l e i e.s.length o key)=F9.Bad [] 7
        unfold Sx
        by_cases o0:o=[]
        · rw [if_pos o0]; exact aLoop_end (short0 K K f c l e i x hx ho' F) (by simp)
        · rw [if_neg o0]; exact aLoop_end (shortR K K f c l e i o key hk x hx ho' F) (by simp)
    | some y =>
      have hj:j < e.s.length:=(List.getElem?_eq_some_iff.1 hy).1
      simp only
      by_cases m:F7.mt x y=true
      · rw [if_pos m]
        exact nx j (j + 1) (by omega) (fun _ => ⟨_,⟨0,.inl rfl⟩,hit0 K K f c l e y i j x hx hy (by omega) ls m⟩) (fun _ => hitR K K f c l e y i j o key hk x hx hy (by omega) lo ls m)
      rw [if_neg m]
      have m':F7.mt x y=false:=by simpa using m
      by_cases ho:x.opt=true
      · rw [if_pos ho]
        exact nx (-1) j (by omega) (fun _ => ⟨_,⟨0,.inr rfl⟩,opt0 K K f c l e i j x hx (by omega) ls (fun y' h => by rw [hy] at h; cases h; exact m') ho⟩) (fun _ => optR K K f c l e i j o key hk x hx (by omega) lo ls (fun y' h => by rw [hy] at h; cases h; exact m') ho)
      · rw [if_neg ho]
        have ho':x.opt=false:=by simpa using ho
        have F:RC K 9 j (fR [(j:Int)] 9):=fun h => rone 9 j (by omega) K (by omega) 0 h
        show F10.Lp K (k + 1) (Sx f c l e i j o key)=F9.Bad [(j:Int)] 9
        unfold Sx
        by_cases o0:o=[]
        · rw [if_pos o0]; exact aLoop_end (wrong0 K K f c l e y i j x hx hy ls m' ho' F) (by simp)
        · rw [if_neg o0]; exact aLoop_end (wrongR K K f c l e y i j o key hk x hx hy ls m' ho' F) (by simp)
def qR:List Int ⊕ (Int × List Int) → AV
  | .inl o => .tup [.sl o.isEmpty (ns o) (if o.isEmpty then some 0 else none),fR [] 0]
  | .inr (e,p) => .tup [.sl true [] (some 0),fR p e]
theorem rsequence (f c) (l:List Fld) (e:El) (t:Int × Bool × Int) (ls:e.s.length ≤ 9223372036854775807) (l2:l.length ≤ 9223372036854775807):Con E (l.length + 60) 36 [e.av,.agg [.int .u8 t.1,.bool t.2.1,.int .u32 t.2.2],.sl f (l.map Fld.av) c] (qR (sq e t l)):=by
  obtain ⟨K,hK⟩:∃ K,l.length + 59=K:=⟨_,rfl⟩
  have eK:l.length + 60=K + 1:=by omega
  rw [eK]
  have f3:=rnil 3 (-1) (by omega) K (by omega) 0
  have f9:=rnil 9 (-1) (by omega) K (by omega) 0
  try simp [fR] at f3
  try simp [fR] at f9
  refine con_of E_fn36 (by simp [AV.pureL,AV.pure,El.av_pure]) (Nat.le_of_ble_eq_true rfl) rfl rfl (g:=[]) ?_
  rw [body_36,c36]
  unfold sq
  by_cases big:256 < l.length
  · have big':(256:Int) < l.length:=by omega
    rw [if_pos big]
    simp [El.av_eq,big,big',f3,qR]
  rw [if_neg big]
  have big':¬ (256:Int) < l.length:=by omega
  by_cases a:e.c=t.1
  case neg => simp [El.av_eq,big,big',a,f9,qR,fitZ]
  by_cases b:e.k=t.2.1
  case neg => simp [El.av_eq,big,big',a,b,f9,qR,fitZ]
  by_cases d:e.n=t.2.2
  case neg => simp [El.av_eq,big,big',a,b,d,f9,qR,fitZ]
  rw [if_neg (fun h => h ⟨a,b,d⟩)]
  have L:=F10.loop K (by omega) f c l e (by omega) ls l 0 0 [] (1,55,0) K rfl (by omega) (by omega) (by simp) ⟨0,.inl rfl⟩ (by omega)
  rw [Sx,if_pos rfl] at L
  cases hr:sqr e.s l 0 [] with
  | inr p =>
    obtain ⟨er,p⟩:=p
    rw [hr] at L
    simp only [qR,fR]
    simp [F10.Lp,b46,lp,lps,c36,firstReg,F9.S0,bx,ec,a,b,d] at L
    simp [El.av_eq,-s_round,big,big',a,b,d,fitZ,L]
  | inl p =>
    obtain ⟨o,j⟩:=p
    have ln:=sqr_len e.s l 0 [] o j (by omega) hr
    simp at ln
    rw [hr] at L
    simp only at L
    obtain ⟨key,hk,L⟩:=L
    unfold Sx at L
    have kj:=ns_keys o
    have pj:=ns_pure o
    have lj:=ns_len o
    simp only
    by_cases o0:o=[]
    · subst o0
      rw [if_pos rfl] at L
      simp [F10.Lp,b46,lp,lps,c36,firstReg,F9.S0,bx,ec,a,b,d] at L
      by_cases hj:j < e.s.length
      · have hj':(j:Int) < e.s.length:=by omega
        have f8:=rone 8 j (by omega) K (by omega) 0
        try simp [fR] at f8
        rw [if_pos hj,qR]
        simp [El.av_eq,-s_round,big,big',a,b,d,fitZ,L,hj,hj',f8]
      · have hj':¬ (j:Int) < e.s.length:=by omega
        rw [if_neg hj,qR]
        simp [El.av_eq,-s_round,big,big',a,b,d,fitZ,L,hj,hj']
    · have e0:o.isEmpty=false:=by cases o with | nil => exact absurd rfl o0 | cons x r => rfl
      rw [if_neg o0] at L
      simp [F10.Lp,b46,lp,lps,c36,firstReg,F9.S0,F9.SR,bx,ec,a,b,d] at L
      by_cases hj:j < e.s.length
      · have hj':(j:Int) < e.s.length:=by omega
        have f8:=rone 8 j (by omega) K (by omega) 0
        try simp [fR] at f8
        rw [if_pos hj,qR]
        obtain ⟨g,rfl | rfl⟩:=hk <;> simp [El.av_eq,-s_round,big,big',a,b,d,fitZ,L,hj,hj',f8,kj]
      · have hj':¬ (j:Int) < e.s.length:=by omega
        rw [if_neg hj,qR]
        obtain ⟨g,rfl | rfl⟩:=hk <;> simp [El.av_eq,-s_round,big,big',a,b,d,fitZ,L,hj,hj',kj,pj,lj,e0,o0]
end F10
end
end
