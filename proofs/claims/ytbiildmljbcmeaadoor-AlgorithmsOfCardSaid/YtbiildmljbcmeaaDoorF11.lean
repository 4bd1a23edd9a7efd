/- Own work, no conditions. -/
import Derived.Test.YtbiildmljbcmeaaDoorF6
set_option maxRecDepth 20000
set_option linter.unusedSimpArgs false
set_option linter.unusedVariables false
set_option maxHeartbeats 16000000
section
open Ab Go TabE
attribute [local simp ↓] s_seq s_reg s_regd s_cond s_block s_cons s_consG s_regD
attribute [local simp] s_nil s_loop s_round s_lpn s_lpe s_lpr firstReg s_gt s_gf s_wb s_wu s_val s_valN s_skip s_calls s_callP s_cax lookR flatR pureKs s_ret s_rgx s_sqn s_sqr s_sqe s_cdb s_bkn s_bkr s_bke s_exit s_ret' s_skip' s_finr s_finn s_fin1 s_fix s_clean s_gc0 o_tmp o_int o_bool o_nil o_str o_fn o_nil' l_hit l_miss l_nil ol_nil ol_cons ol_some x_move x_assign x_pick pk_t pk_f x_bin bn_s x_un x_extract x_callF cl_no x_callB x_callBF frzV x_conv cvx convA frame0 binA intOp resL resA results1 sealLW AV.pure AV.pureL keepT x_alloc x_box bxx x_build bdx x_buildSlice bsx x_buildSliceF bsf x_load ldx x_store stx x_slice slx x_fieldAddr x_field x_index ixx x_indexAddr iax x_makeSlice msx x_makeSliceF msf x_nilCheck newK genOf setK lookK fillA writeL writeC readC conts TyI.mk1 sliceA boundsA boundsB fitsA numA indexAddrA fieldAddrA partA fieldA indexA appendA copyA builtinA AV.cells chunk gcH reach keysT keepK inKs AV.keys AV.keysL Ty.isAgg eq1 eqL convA.go ltI w_u8 w_u32 w_u64 w_i64 w_fdiv w_tdiv w_tmod IntKind.bits unA sc_int sc_bool sc_str sc_sl sc_ref sc_ptr sc_pel sc_nilp sc_fn sc_nilf sc_if sc_nili sc_agg sc_tup sc_mem bs_pure bs_kl bs_length bs_cells bs_all sl_row sealRow sealY sl_int sl_bool sl_str sl_sl sl_nilp sl_nilf sl_nili sl_pel sl_agg sl_tup sl_fn sl_if nat_1 bs_cons bs_nil i_beq i_bne x_mkF x_mkI x_tassert x_panic s_pan s_sqp s_bkp s_finp s_fixp s_lpp s_rgp s_retp s_site s_stxN s_stxO x_callT clx El.avs_len s_dyn0 s_rgy barOf dynChk footL dynOK disjK keysOp opVals Op.operands
section
open Ab Go TabE Sp E34 F1 Rw F5 F6
namespace F7
def mt (x:Fld) (y:El):Bool:=x.any || (decide (x.c=y.c) && (decide (x.k=y.k) && decide (x.n=y.n)))
theorem matches_ (x:Fld) (y:El):Con E 10 115 [x.av,y.av] (.bool (mt x y)):=by
  refine con_of E_fn115 (by simp [AV.pureL,AV.pure,El.av_pure,Fld.cells]) (Nat.le_of_ble_eq_true rfl) rfl rfl (g:=[]) ?_
  rw [body_115,c115]
  unfold mt
  cases ha:x.any
  · by_cases a:x.c=y.c <;> by_cases b:x.k=y.k <;> by_cases c:x.n=y.n <;> simp [El.av_eq,Fld.cells,ha,a,b,c,fitZ]
  · simp [El.av_eq,Fld.cells,ha,fitZ]
def sqr (s:List El):List Fld → Nat → List Int → (List Int × Nat) ⊕ (Int × List Int)
  | [],j,o => .inl (o,j)
  | x :: r,j,o => match s[j]? with
    | some y => if mt x y=true then sqr s r (j + 1) (o ++ [(j:Int)]) else if x.opt=true then sqr s r j (o ++ [-1]) else .inr (9,[(j:Int)])
    | none => if x.opt=true then sqr s r j (o ++ [-1]) else .inr (7,[])
theorem fd_at (f c) (l:List Fld) (i:Nat) (x:Fld) (h:l[i]? = some x):∀ hp,indexAddrA E 76 (.sl f (l.map Fld.av) c) (.int .i64 i) hp=some (.pel [.int .u8 x.c,.bool x.k,.int .u32 x.n,.bool x.any,.bool x.opt]):=by
  intro hp
  have hi:i < l.length:=(List.getElem?_eq_some_iff.1 h).1
  unfold indexAddrA
  simp only [E_ty76,E_ty75]
  rw [if_pos ⟨by omega,by rw [List.length_map]; omega⟩]
  simp only [Int.toNat_natCast,List.getElem?_map,h,Option.map_some]
  rfl
def zr (z:Nat):List AV:=List.replicate z (.int .i64 0)
theorem zr_eq (z:Nat):List.replicate z (AV.int .i64 0)=zr z:=rfl
theorem zr_len (z:Nat):(zr z).length=z:=List.length_replicate
theorem zr_ns (z:Nat):zr z=ns (List.replicate z 0):=by simp [zr,ns]
theorem zr_pure (z:Nat):AV.pureL (zr z)=true:=by rw [zr_ns]; exact ns_pure _
theorem zr_keys (z:Nat):AV.keysL (zr z)=[]:=AV.keysL_pure _ (zr_pure z)
abbrev rw_ (o:List Int) (z:Nat):AObj:=⟨ns o ++ zr z,true,true,true,1,false⟩
theorem rw_keys (o z):AV.keysL (ns o ++ zr z)=[]:=by rw [El.keysL_app,ns_keys,zr_keys]; rfl
theorem rw_len (o z):(ns o ++ zr z).length=o.length + z:=by rw [List.length_append,ns_len,zr_len]
theorem rw_take (o:List Int) (z):(ns o ++ zr z).take o.length=ns o:=by rw [← ns_len o,List.take_left']; rfl
theorem rw_drop (o:List Int) (z):(ns o ++ zr (z + 1)).drop (o.length + 1)=zr z:=by
  have:(ns o ++ zr (z + 1)).drop (o.length + 1)=((ns o ++ zr (z + 1)).drop (ns o).length).drop 1:=by rw [List.drop_drop,ns_len]
  rw [this,List.drop_left']; rfl
  rfl
def b45:Code:=lp c69 0
abbrev S (f:Bool) (c:Option Nat) (l:List Fld) (e:El) (i j:Nat) (o:List Int) (z:Nat):St:=⟨[(3,.ptr (1,3,0) 0),(7,.ptr (1,7,0) 0),(8,.int .i64 (j:Int)),(9,.ref (1,26,0) 0 o.length (some l.length)),(27,.sl f (l.map Fld.av) c),(28,.int .i64 (l.length:Int)),(29,.int .i64 (i:Int))],[((1,3,0),bx (ec e)),((1,7,0),bx [.sl true [] (some 0),.int .i64 0]),((1,26,0),rw_ o z)]⟩
abbrev MC (q:Nat) (x:Fld) (y:El):Prop:=∀ h,aCall E q 0 115 [x.av,y.av] h=some (.ret (.bool (mt x y)),h)
abbrev Bad (p:List Int) (e:Int):Option (AExit × St):=some (.ret,⟨[(6,.sl true [] (some 0)),(7,.ptr (1,7,0) 0)],[((1,7,0),bx [.sl p.isEmpty (ns p) (some p.length),.int .i64 e])]⟩)
theorem hit (q k1:Nat) (f c) (l:List Fld) (e y:El) (i j:Nat) (o:List Int) (z:Nat) (x:Fld) (hx:l[i]? = some x) (hy:e.s[j]? = some y) (ll:l.length ≤ 1000) (hz:o.length + (z + 1)=l.length) (ls:e.s.length ≤ 9223372036854775807) (M:MC q x y) (m:mt x y=true) :
    rndO fn69 b45 q k1 (S f c l e i j o (z + 1))=some (.normal,S f c l e (i + 1) (j + 1) (o ++ [(j:Int)]) z):=by
  have hi:i < l.length:=(List.getElem?_eq_some_iff.1 hx).1
  have hj:j < e.s.length:=(List.getElem?_eq_some_iff.1 hy).1
  have ix:=fd_at f c l i x hx
  have iy:=fun hp => El.at_ e.fs e.cs e.s j y hy hp
  have w:=w64' ((i:Int) + 1) (by omega) (by omega)
  have w2:=w64' ((j:Int) + 1) (by omega) (by omega)
  rw [MC,El.av_eq,Fld.av,Fld.cells,m] at M
  have fit:o.length + 1 ≤ l.length:=by omega
  have fit2:o.length ≤ l.length:=by omega
  have k0:=rw_keys o (z + 1)
  have k1':=rw_keys (o ++ [(j:Int)]) z
  have e1:ns (o ++ [(j:Int)])=ns o ++ [.int .i64 (j:Int)]:=ns_app _ _
  rw [e1] at k1'
  simp at k1'
  simp [b45,lp,lps,c69,-indexAddrA,ix,iy,w,w2,hi,hj,M,fit,fit2,k0,k1',e1,rw_len,rw_take,rw_drop,zr_len,hz]
theorem opt (q k1:Nat) (f c) (l:List Fld) (e:El) (i j:Nat) (o:List Int) (z:Nat) (x:Fld) (hx:l[i]? = some x) (ll:l.length ≤ 1000) (hz:o.length + (z + 1)=l.length) (ls:e.s.length ≤ 9223372036854775807) (M:∀ y,e.s[j]? = some y → MC q x y ∧ mt x y=false) (ho:x.opt=true) :
    rndO fn69 b45 q k1 (S f c l e i j o (z + 1))=some (.normal,S f c l e (i + 1) j (o ++ [-1]) z):=by
  have hi:i < l.length:=(List.getElem?_eq_some_iff.1 hx).1
  have ix:=fd_at f c l i x hx
  have w:=w64' ((i:Int) + 1) (by omega) (by omega)
  have fit:o.length + 1 ≤ l.length:=by omega
  have fit2:o.length ≤ l.length:=by omega
  have k0:=rw_keys o (z + 1)
  have k1':=rw_keys (o ++ [-1]) z
  have e1:ns (o ++ [-1])=ns o ++ [.int .i64 (-1)]:=ns_app _ _
  rw [e1] at k1'
  simp at k1'
  cases hy:e.s[j]? with
  | none =>
    have hj:=List.getElem?_eq_none_iff.1 hy
    have hj':¬ j < e.s.length:=by omega
    simp [b45,lp,lps,c69,-indexAddrA,ix,w,hi,hj',ho,fit,fit2,k0,k1',e1,rw_len,rw_take,rw_drop,zr_len,hz]
  | some y =>
    have hj:j < e.s.length:=(List.getElem?_eq_some_iff.1 hy).1
    have iy:=fun hp => El.at_ e.fs e.cs e.s j y hy hp
    obtain ⟨M,m⟩:=M y hy
    rw [MC,El.av_eq,Fld.av,Fld.cells,m,ho] at M
    simp [b45,lp,lps,c69,-indexAddrA,ix,iy,w,hi,hj,M,ho,fit,fit2,k0,k1',e1,rw_len,rw_take,rw_drop,zr_len,hz]
theorem short (q k1:Nat) (f c) (l:List Fld) (e:El) (i:Nat) (o:List Int) (z:Nat) (x:Fld) (hx:l[i]? = some x) (ll:l.length ≤ 1000) (ho:x.opt=false) (F:∀ h,aCall E q 0 114 [.int .i64 7,.sl true [] (some 0)] h=some (.ret (fF [] 7),h)) :
    rndO fn69 b45 q k1 (S f c l e i e.s.length o z)=Bad [] 7:=by
  have hi:i < l.length:=(List.getElem?_eq_some_iff.1 hx).1
  have ix:=fd_at f c l i x hx
  have k0:=rw_keys o z
  simp [fF] at F
  simp [b45,lp,lps,c69,-indexAddrA,ix,hi,ho,k0,F]
theorem wrong (q k1:Nat) (f c) (l:List Fld) (e y:El) (i j:Nat) (o:List Int) (z:Nat) (x:Fld) (hx:l[i]? = some x) (hy:e.s[j]? = some y) (ll:l.length ≤ 1000) (ls:e.s.length ≤ 9223372036854775807) (M:MC q x y) (m:mt x y=false) (ho:x.opt=false) (F:∀ h,aCall E q 0 114 [.int .i64 9,.sl false [.int .i64 (j:Int)] (some 1)] h=some (.ret (fF [(j:Int)] 9),h)) :
    rndO fn69 b45 q k1 (S f c l e i j o z)=Bad [(j:Int)] 9:=by
  have hi:i < l.length:=(List.getElem?_eq_some_iff.1 hx).1
  have hj:j < e.s.length:=(List.getElem?_eq_some_iff.1 hy).1
  have hj2:¬ j=e.s.length:=by omega
  have hj3:¬ (j:Int)=e.s.length:=by omega
  have ix:=fd_at f c l i x hx
  have iy:=fun hp => El.at_ e.fs e.cs e.s j y hy hp
  have k0:=rw_keys o z
  rw [MC,El.av_eq,Fld.av,Fld.cells,m,ho] at M
  simp [fF] at F
  simp [b45,lp,lps,c69,-indexAddrA,ix,iy,hi,hj,hj2,hj3,ho,k0,F,M]
theorem last (q k1:Nat) (f c) (l:List Fld) (e:El) (j:Nat) (o:List Int) (z:Nat):rndO fn69 b45 q k1 (S f c l e l.length j o z)=some (.exit 1,⟨(S f c l e l.length j o z).t ++ [(30,.bool false)],(S f c l e l.length j o z).h⟩):=by
  have k0:=rw_keys o z
  simp [b45,lp,lps,c69,k0]
end F7
end
section
open Ab Go TabE Sp E34 F1 Rw F5 F6 F7
namespace F8
theorem sqr_len (s:List El):∀ (r:List Fld) (j:Nat) (o:List Int) (o':List Int) (j':Nat),j ≤ s.length → sqr s r j o=.inl (o',j') → o'.length=o.length + r.length ∧ j' ≤ s.length
  | [],j,o,o',j',hj,h => by unfold sqr at h; cases h; simp [hj]
  | x :: r,j,o,o',j',hj,h => by
    unfold sqr at h
    cases hy:s[j]? with
    | none =>
      rw [hy] at h
      simp only at h
      split at h
      · have:=sqr_len s r j _ o' j' hj h; simp at this ⊢; omega
      · cases h
    | some y =>
      rw [hy] at h
      have hl:j < s.length:=(List.getElem?_eq_some_iff.1 hy).1
      simp only at h
      split at h
      · have:=sqr_len s r (j + 1) _ o' j' (by omega) h; simp at this ⊢; omega
      · split at h
        · have:=sqr_len s r j _ o' j' hj h; simp at this ⊢; omega
        · cases h
def sq (e:El) (t:Int × Bool × Int) (l:List Fld):List Int ⊕ (Int × List Int) :=
  if 256 < l.length then .inr (3,[]) else if ¬ (e.c=t.1 ∧ e.k=t.2.1 ∧ e.n=t.2.2) then .inr (9,[]) else
  match sqr e.s l 0 [] with
  | .inr p => .inr p
  | .inl (o,j) => if j < e.s.length then .inr (8,[(j:Int)]) else .inl o
def qF:List Int ⊕ (Int × List Int) → AV
  | .inl o => .tup [.sl false (ns o) (some o.length),fF [] 0]
  | .inr (e,p) => .tup [.sl true [] (some 0),fF p e]
abbrev Lp (K:Nat):=aLoop (aCode E (site fn69 (aRun E K)) (dcall (aRun E K)) K 1 fn69 b45) (cleanS 1 ((firstReg b45).bind fn69.head))
theorem loop (K:Nat) (hK:30 ≤ K) (f c) (l:List Fld) (e:El) (ll:l.length ≤ 1000) (ls:e.s.length ≤ 9223372036854775807):∀ (r:List Fld) (i j:Nat) (o:List Int) (k:Nat),l.drop i=r → i + r.length=l.length → j ≤ e.s.length → o.length + r.length=l.length → r.length < k →
    Lp K k (F7.S f c l e i j o r.length)=(match sqr e.s r j o with
      | .inl (o',j') => some (.exit 1,⟨(F7.S f c l e l.length j' o' 0).t ++ [(30,.bool false)],(F7.S f c l e l.length j' o' 0).h⟩)
      | .inr (er,p) => Bad p er)
  | [],i,j,o,k,h1,h2,h3,h4,h5 => by
    obtain ⟨k,rfl⟩:∃ q,k=q + 1:=⟨k - 1,by omega⟩
    simp at h2
    subst h2
    exact aLoop_end (last K K f c l e j o 0) (by simp)
  | x :: r,i,j,o,k,h1,h2,h3,h4,h5 => by
    obtain ⟨k,rfl⟩:∃ q,k=q + 1:=⟨k - 1,by omega⟩
    simp only [List.length_cons] at h2 h4 h5 ⊢
    have hx:l[i]? = some x:=by
      have:=congrArg (fun l => l[0]?) h1
      simpa [List.getElem?_drop] using this
    have hd:l.drop (i + 1)=r:=by
      have:=congrArg List.tail h1
      simpa [List.tail_drop] using this
    have M:∀ y,MC K x y:=fun y h => matches_ x y K (by omega) 0 h
    unfold sqr
    have goOpt:x.opt=true → (∀ y,e.s[j]? = some y → mt x y=false) → Lp K (k + 1) (F7.S f c l e i j o (r.length + 1))=(match sqr e.s r j (o ++ [-1]) with
      | .inl (o',j') => some (.exit 1,⟨(F7.S f c l e l.length j' o' 0).t ++ [(30,.bool false)],(F7.S f c l e l.length j' o' 0).h⟩)
      | .inr (er,p) => Bad p er):=fun ho hm => by
      have I:=loop K hK f c l e ll ls r (i + 1) j (o ++ [-1]) k hd (by omega) h3 (by rw [List.length_append]; simp; omega) (by omega)
      exact (aLoop_succ (opt K K f c l e i j o r.length x hx ll (by omega) ls (fun y hy => ⟨M y,hm y hy⟩) ho)).trans I
    cases hy:e.s[j]? with
    | none =>
      have hj:=List.getElem?_eq_none_iff.1 hy
      obtain rfl:j=e.s.length:=by omega
      simp only
      by_cases ho:x.opt=true
      · rw [if_pos ho]; exact goOpt ho fun y h => by rw [hy] at h; cases h
      · rw [if_neg ho]
        exact aLoop_end (short K K f c l e i o (r.length + 1) x hx ll (by simpa using ho) fun h => fnil 7 K (by omega) 0 h) (by simp)
    | some y =>
      have hj:j < e.s.length:=(List.getElem?_eq_some_iff.1 hy).1
      simp only
      by_cases m:mt x y=true
      · rw [if_pos m]
        have I:=loop K hK f c l e ll ls r (i + 1) (j + 1) (o ++ [(j:Int)]) k hd (by omega) (by omega) (by rw [List.length_append]; simp; omega) (by omega)
        exact (aLoop_succ (hit K K f c l e y i j o r.length x hx hy ll (by omega) ls (M y) m)).trans I
      rw [if_neg m]
      have m':mt x y=false:=by simpa using m
      by_cases ho:x.opt=true
      · rw [if_pos ho]; exact goOpt ho fun y' h => by rw [hy] at h; cases h; exact m'
      · rw [if_neg ho]
        exact aLoop_end (wrong K K f c l e y i j o (r.length + 1) x hx hy ll ls (M y) m' (by simpa using ho) fun h => fone 9 j (some 1) K (by omega) 0 h) (by simp)
theorem sequence (f c) (l:List Fld) (e:El) (t:Int × Bool × Int) (ls:e.s.length ≤ 9223372036854775807) (l2:l.length ≤ 9223372036854775807):Con E (l.length + 60) 69 [e.av,.agg [.int .u8 t.1,.bool t.2.1,.int .u32 t.2.2],.sl f (l.map Fld.av) c] (qF (sq e t l)):=by
  obtain ⟨K,hK⟩:∃ K,l.length + 59=K:=⟨_,rfl⟩
  have eK:l.length + 60=K + 1:=by omega
  rw [eK]
  have f3:=fnil 3 K (by omega) 0
  have f9:=fnil 9 K (by omega) 0
  try simp [fF] at f3
  try simp [fF] at f9
  refine con_ofO E_fn69 (by simp [AV.pureL,AV.pure,El.av_pure]) (Nat.le_of_ble_eq_true rfl) rfl (g:=[]) ?_
  rw [body_69,c69]
  unfold sq
  by_cases big:256 < l.length
  · have big':(256:Int) < l.length:=by omega
    rw [if_pos big]
    simp [El.av_eq,big,big',f3,qF]
  rw [if_neg big]
  have big':¬ (256:Int) < l.length:=by omega
  by_cases a:e.c=t.1
  case neg => simp [El.av_eq,big,big',a,f9,qF,fitZ]
  by_cases b:e.k=t.2.1
  case neg => simp [El.av_eq,big,big',a,b,f9,qF,fitZ]
  by_cases d:e.n=t.2.2
  case neg => simp [El.av_eq,big,big',a,b,d,f9,qF,fitZ]
  rw [if_neg (fun h => h ⟨a,b,d⟩)]
  have L:=loop K (by omega) f c l e (by omega) ls l 0 0 [] K rfl (by omega) (by omega) (by simp) (by omega)
  have zz:=zr_eq l.length
  have mk:(l.length:Int) ≤ 70368744177664:=by omega
  have mk2:(l.length:Int) * 8 ≤ 70368744177664:=by omega
  have n0:(0:Int) ≤ (l.length:Int):=by omega
  have k0:=rw_keys [] l.length
  cases hr:sqr e.s l 0 [] with
  | inr p =>
    obtain ⟨er,p⟩:=p
    rw [hr] at L
    simp only [qF,fF]
    simp [F8.Lp,b45,lp,lps,c69,firstReg,F7.S,bx,ec,a,b,d,rw_] at L
    simp at k0
    simp [El.av_eq,-s_round,big,big',a,b,d,fitZ,L,zz,mk,mk2,k0,zr_len,zr_pure]
  | inl p =>
    obtain ⟨o,j⟩:=p
    have ln:=sqr_len e.s l 0 [] o j (by omega) hr
    simp at ln
    rw [hr] at L
    simp [F8.Lp,b45,lp,lps,c69,firstReg,F7.S,bx,ec,a,b,d,rw_] at L
    simp at k0
    have z0:zr 0=[]:=rfl
    rw [z0] at L
    simp at L
    have kj:=ns_keys o
    have pj:=ns_pure o
    have lj:=ns_len o
    simp only
    by_cases hj:j < e.s.length
    · have hj':(j:Int) < e.s.length:=by omega
      have f8:=fone 8 j (some 1) K (by omega) 0
      simp [fF] at f8
      rw [if_pos hj,qF]
      simp [El.av_eq,-s_round,big,big',a,b,d,fitZ,L,zz,mk,mk2,k0,zr_len,zr_pure,hj,hj',f8,kj,pj]
    · have hj':¬ (j:Int) < e.s.length:=by omega
      rw [if_neg hj,qF]
      simp [El.av_eq,-s_round,big,big',a,b,d,fitZ,L,zz,mk,mk2,k0,zr_len,zr_pure,hj,hj',kj,pj,lj,ln.1]
end F8
end
section
open Ab Go TabE Sp E34 F1 Rw F5 F6 F7 F8
namespace F9
def b46:Code:=lp c36 0
abbrev S0 (f:Bool) (c:Option Nat) (l:List Fld) (e:El) (i j:Nat):St:=⟨[(2,.sl f (l.map Fld.av) c),(3,.ptr (1,3,0) 0),(7,.ptr (1,7,0) 0),(8,.sl true [] (some 0)),(9,.int .i64 (j:Int)),(10,.int .i64 (i:Int))],[((1,3,0),bx (ec e)),((1,7,0),bx [.sl true [] (some 0),.int .i64 0])]⟩
abbrev SR (f:Bool) (c:Option Nat) (l:List Fld) (e:El) (i j:Nat) (o:List Int) (key:Key):St:=⟨[(2,.sl f (l.map Fld.av) c),(3,.ptr (1,3,0) 0),(7,.ptr (1,7,0) 0),(8,.ref key 0 o.length none),(9,.int .i64 (j:Int)),(10,.int .i64 (i:Int))],[((1,3,0),bx (ec e)),((1,7,0),bx [.sl true [] (some 0),.int .i64 0]),(key,⟨ns o,true,true,false,1,false⟩)]⟩
abbrev Ky (key:Key):Prop:=∃ g,key=(1,55,g) ∨ key=(1,65,g)
abbrev Bad (p:List Int) (e:Int):Option (AExit × St):=some (.ret,⟨[(6,.sl true [] (some 0)),(7,.ptr (1,7,0) 0)],[((1,7,0),bx [.sl p.isEmpty (ns p) (if p.isEmpty then some 0 else none),.int .i64 e])]⟩)
theorem mt_cases (x:Fld) (y:El):(F7.mt x y=true ∧ (x.any=true ∨ (x.any=false ∧ x.c=y.c ∧ x.k=y.k ∧ x.n=y.n))) ∨ (F7.mt x y=false ∧ x.any=false ∧ (¬ x.c=y.c ∨ (x.c=y.c ∧ ¬ x.k=y.k) ∨ (x.c=y.c ∧ x.k=y.k ∧ ¬ x.n=y.n))):=by
  unfold F7.mt
  cases ha:x.any
  · by_cases a:x.c=y.c
    · by_cases b:x.k=y.k
      · by_cases c:x.n=y.n
        · exact .inl ⟨by simp [a,b,c],.inr ⟨rfl,a,b,c⟩⟩
        · exact .inr ⟨by simp [a,b,c],rfl,.inr (.inr ⟨a,b,c⟩)⟩
      · exact .inr ⟨by simp [a,b],rfl,.inr (.inl ⟨a,b⟩)⟩
    · exact .inr ⟨by simp [a],rfl,.inl a⟩
  · exact .inl ⟨by simp,.inl rfl⟩
theorem hit0 (q k1:Nat) (f c) (l:List Fld) (e y:El) (i j:Nat) (x:Fld) (hx:l[i]? = some x) (hy:e.s[j]? = some y) (ll:l.length ≤ 1000) (ls:e.s.length ≤ 9223372036854775807) (m:F7.mt x y=true) :
    rnd fn36 b46 q k1 (S0 f c l e i j)=some (.normal,SR f c l e (i + 1) (j + 1) [(j:Int)] (1,55,0)):=by
  have hi:i < l.length:=(List.getElem?_eq_some_iff.1 hx).1
  have hj:j < e.s.length:=(List.getElem?_eq_some_iff.1 hy).1
  have ix:=fd_at f c l i x hx
  have iy:=fun hp => El.at_ e.fs e.cs e.s j y hy hp
  have w:=w64' ((i:Int) + 1) (by omega) (by omega)
  have w2:=w64' ((j:Int) + 1) (by omega) (by omega)
  rcases mt_cases x y with ⟨_,ha | ⟨ha,a1,a2,a3⟩⟩ | ⟨h,_⟩
  · simp [b46,lp,lps,c36,-indexAddrA,ix,iy,w,w2,hi,hj,ha]
  · simp [b46,lp,lps,c36,-indexAddrA,ix,iy,w,w2,hi,hj,ha,a1,a2,a3,fitZ]
  · rw [m] at h; cases h
theorem hitR (q k1:Nat) (f c) (l:List Fld) (e y:El) (i j:Nat) (o:List Int) (key:Key) (hk:Ky key) (x:Fld) (hx:l[i]? = some x) (hy:e.s[j]? = some y) (ll:l.length ≤ 1000) (lo:o.length ≤ 1000) (ls:e.s.length ≤ 9223372036854775807) (m:F7.mt x y=true) :
    ∃ key',Ky key' ∧ rnd fn36 b46 q k1 (SR f c l e i j o key)=some (.normal,SR f c l e (i + 1) (j + 1) (o ++ [(j:Int)]) key'):=by
  have hi:i < l.length:=(List.getElem?_eq_some_iff.1 hx).1
  have hj:j < e.s.length:=(List.getElem?_eq_some_iff.1 hy).1
  have ix:=fd_at f c l i x hx
  have iy:=fun hp => El.at_ e.fs e.cs e.s j y hy hp
  have w:=w64' ((i:Int) + 1) (by omega) (by omega)
  have w2:=w64' ((j:Int) + 1) (by omega) (by omega)
  have cs5:(o.length + 1) * 8 ≤ 70368744177664:=by omega
  have k0:=ns_keys o
  have p0:=ns_pure o
  have s0:=ns_scal o
  have l0:=ns_len o
  have k2:=ns_keys (o ++ [(j:Int)])
  have e1:ns (o ++ [(j:Int)])=ns o ++ [.int .i64 (j:Int)]:=ns_app _ _
  rw [e1] at k2
  refine ⟨(1,55,if key.2.1=55 then key.2.2 + 1 else 0),⟨_,.inl rfl⟩,?_⟩
  rcases mt_cases x y with ⟨_,ha | ⟨ha,a1,a2,a3⟩⟩ | ⟨h,_⟩
  · obtain ⟨g,rfl | rfl⟩:=hk <;> simp [b46,lp,lps,c36,-indexAddrA,ix,iy,w,w2,hi,hj,ha,cs5,k0,p0,s0,l0,k2,e1]
  · obtain ⟨g,rfl | rfl⟩:=hk <;> simp [b46,lp,lps,c36,-indexAddrA,ix,iy,w,w2,hi,hj,ha,a1,a2,a3,fitZ,cs5,k0,p0,s0,l0,k2,e1]
  · rw [m] at h; cases h
theorem opt0 (q k1:Nat) (f c) (l:List Fld) (e:El) (i j:Nat) (x:Fld) (hx:l[i]? = some x) (ll:l.length ≤ 1000) (ls:e.s.length ≤ 9223372036854775807) (M:∀ y,e.s[j]? = some y → F7.mt x y=false) (ho:x.opt=true) :
    rnd fn36 b46 q k1 (S0 f c l e i j)=some (.normal,SR f c l e (i + 1) j [-1] (1,65,0)):=by
  have hi:i < l.length:=(List.getElem?_eq_some_iff.1 hx).1
  have ix:=fd_at f c l i x hx
  have w:=w64' ((i:Int) + 1) (by omega) (by omega)
  cases hy:e.s[j]? with
  | none =>
    have hj:=List.getElem?_eq_none_iff.1 hy
    have hj':¬ j < e.s.length:=by omega
    simp [b46,lp,lps,c36,-indexAddrA,ix,w,hi,hj',ho]
  | some y =>
    have hj:j < e.s.length:=(List.getElem?_eq_some_iff.1 hy).1
    have iy:=fun hp => El.at_ e.fs e.cs e.s j y hy hp
    rcases mt_cases x y with ⟨h,_⟩ | ⟨_,ha,a1 | ⟨a1,a2⟩ | ⟨a1,a2,a3⟩⟩
    · rw [M y hy] at h; cases h
    · simp [b46,lp,lps,c36,-indexAddrA,ix,iy,w,hi,hj,ho,ha,a1,fitZ]
    · simp [b46,lp,lps,c36,-indexAddrA,ix,iy,w,hi,hj,ho,ha,a1,a2,fitZ]
    · simp [b46,lp,lps,c36,-indexAddrA,ix,iy,w,hi,hj,ho,ha,a1,a2,a3,fitZ]
theorem optR (q k1:Nat) (f c) (l:List Fld) (e:El) (i j:Nat) (o:List Int) (key:Key) (hk:Ky key) (x:Fld) (hx:l[i]? = some x) (ll:l.length ≤ 1000) (lo:o.length ≤ 1000) (ls:e.s.length ≤ 9223372036854775807) (M:∀ y,e.s[j]? = some y → F7.mt x y=false) (ho:x.opt=true) :
    ∃ key',Ky key' ∧ rnd fn36 b46 q k1 (SR f c l e i j o key)=some (.normal,SR f c l e (i + 1) j (o ++ [-1]) key'):=by
  have hi:i < l.length:=(List.getElem?_eq_some_iff.1 hx).1
  have ix:=fd_at f c l i x hx
  have w:=w64' ((i:Int) + 1) (by omega) (by omega)
  have cs5:(o.length + 1) * 8 ≤ 70368744177664:=by omega
  have k0:=ns_keys o
  have p0:=ns_pure o
  have s0:=ns_scal o
  have l0:=ns_len o
  have k2:=ns_keys (o ++ [-1])
  have e1:ns (o ++ [-1])=ns o ++ [.int .i64 (-1)]:=ns_app _ _
  rw [e1] at k2
  refine ⟨(1,65,if key.2.1=65 then key.2.2 + 1 else 0),⟨_,.inr rfl⟩,?_⟩
  cases hy:e.s[j]? with
  | none =>
    have hj:=List.getElem?_eq_none_iff.1 hy
    have hj':¬ j < e.s.length:=by omega
    obtain ⟨g,rfl | rfl⟩:=hk <;> simp [b46,lp,lps,c36,-indexAddrA,ix,w,hi,hj',ho,cs5,k0,p0,s0,l0,k2,e1]
  | some y =>
    have hj:j < e.s.length:=(List.getElem?_eq_some_iff.1 hy).1
    have iy:=fun hp => El.at_ e.fs e.cs e.s j y hy hp
    rcases mt_cases x y with ⟨h,_⟩ | ⟨_,ha,a1 | ⟨a1,a2⟩ | ⟨a1,a2,a3⟩⟩
    · rw [M y hy] at h; cases h
    · obtain ⟨g,rfl | rfl⟩:=hk <;> simp [b46,lp,lps,c36,-indexAddrA,ix,iy,w,hi,hj,ho,ha,a1,fitZ,cs5,k0,p0,s0,l0,k2,e1]
    · obtain ⟨g,rfl | rfl⟩:=hk <;> simp [b46,lp,lps,c36,-indexAddrA,ix,iy,w,hi,hj,ho,ha,a1,a2,fitZ,cs5,k0,p0,s0,l0,k2,e1]
    · obtain ⟨g,rfl | rfl⟩:=hk <;> simp [b46,lp,lps,c36,-indexAddrA,ix,iy,w,hi,hj,ho,ha,a1,a2,a3,fitZ,cs5,k0,p0,s0,l0,k2,e1]
end F9
end
section
open Ab Go TabE Sp E34 F1 Rw F5 F6 F7 F8 F9
namespace F10
abbrev RC (q:Nat) (e x:Int) (v:AV):Prop:=∀ h,aCall E q 0 35 [.int .i64 e,.int .i64 x] h=some (.ret v,h)
theorem short0 (q k1:Nat) (f c) (l:List Fld) (e:El) (i:Nat) (x:Fld) (hx:l[i]? = some x) (ho:x.opt=false) (F:RC q 7 (-1) (fR [] 7)) :
    rnd fn36 b46 q k1 (F9.S0 f c l e i e.s.length)=F9.Bad [] 7:=by
  have hi:i < l.length:=(List.getElem?_eq_some_iff.1 hx).1
  have ix:=fd_at f c l i x hx
  unfold RC at F
  try simp [fR] at F
  simp [b46,lp,lps,c36,-indexAddrA,ix,hi,ho,F]
theorem shortR (q k1:Nat) (f c) (l:List Fld) (e:El) (i:Nat) (o:List Int) (key:Key) (hk:Ky key) (x:Fld) (hx:l[i]? = some x) (ho:x.opt=false) (F:RC q 7 (-1) (fR [] 7)) :
    rnd fn36 b46 q k1 (F9.SR f c l e i e.s.length o key)=F9.Bad [] 7:=by
  have hi:i < l.length:=(List.getElem?_eq_some_iff.1 hx).1
  have ix:=fd_at f c l i x hx
  have k0:=ns_keys o
  unfold RC at F
  try simp [fR] at F
  obtain ⟨g,rfl | rfl⟩:=hk <;> simp [b46,lp,lps,c36,-indexAddrA,ix,hi,ho,F,k0]
theorem wrong0 (q k1:Nat) (f c) (l:List Fld) (e y:El) (i j:Nat) (x:Fld) (hx:l[i]? = some x) (hy:e.s[j]? = some y) (ls:e.s.length ≤ 9223372036854775807) (m:F7.mt x y=false) (ho:x.opt=false) (F:RC q 9 j (fR [(j:Int)] 9)) :
    rnd fn36 b46 q k1 (F9.S0 f c l e i j)=F9.Bad [(j:Int)] 9:=by
  have hi:i < l.length:=(List.getElem?_eq_some_iff.1 hx).1
  have hj:j < e.s.length:=(List.getElem?_eq_some_iff.1 hy).1
  have hj2:¬ j=e.s.length:=by omega
  have hj3:¬ (j:Int)=e.s.length:=by omega
  have ix:=fd_at f c l i x hx
  have iy:=fun hp => El.at_ e.fs e.cs e.s j y hy hp
  unfold RC at F
  try simp [fR] at F
  rcases mt_cases x y with ⟨h,_⟩ | ⟨_,ha,a1 | ⟨a1,a2⟩ | ⟨a1,a2,a3⟩⟩
  · rw [m] at h; cases h
  · simp [b46,lp,lps,c36,-indexAddrA,ix,iy,hi,hj,hj2,hj3,ho,ha,a1,fitZ,F]
  · simp [b46,lp,lps,c36,-indexAddrA,ix,iy,hi,hj,hj2,hj3,ho,ha,a1,a2,fitZ,F]
  · simp [b46,lp,lps,c36,-indexAddrA,ix,iy,hi,hj,hj2,hj3,ho,ha,a1,a2,a3,fitZ,F]
theorem wrongR (q k1:Nat) (f c) (l:List Fld) (e y:El) (i j:Nat) (o:List Int) (key:Key) (hk:Ky key) (x:Fld) (hx:l[i]? = some x) (hy:e.s[j]? = some y) (ls:e.s.length ≤ 9223372036854775807) (m:F7.mt x y=false) (ho:x.opt=false) (F:RC q 9 j (fR [(j:Int)] 9)) :
    rnd fn36 b46 q k1 (F9.SR f c l e i j o key)=F9.Bad [(j:Int)] 9:=by
  have hi:i < l.length:=(List.getElem?_eq_some_iff.1 hx).1
  have hj:j < e.s.length:=(List.getElem?_eq_some_iff.1 hy).1
  have hj2:¬ j=e.s.length:=by omega
  have hj3:¬ (j:Int)=e.s.length:=by omega
  have ix:=fd_at f c l i x hx
  have iy:=fun hp => El.at_ e.fs e.cs e.s j y hy hp
  have k0:=ns_keys o
  unfold RC at F
  try simp [fR] at F
  rcases mt_cases x y with ⟨h,_⟩ | ⟨_,ha,a1 | ⟨a1,a2⟩ | ⟨a1,a2,a3⟩⟩
  · rw [m] at h; cases h
  · obtain ⟨g,rfl | rfl⟩:=hk <;> simp [b46,lp,lps,c36,-indexAddrA,ix,iy,hi,hj,hj2,hj3,ho,ha,a1,fitZ,F,k0]
  · obtain ⟨g,rfl | rfl⟩:=hk <;> simp [b46,lp,lps,c36,-indexAddrA,ix,iy,hi,hj,hj2,hj3,ho,ha,a1,a2,fitZ,F,k0]
  · obtain ⟨g,rfl | rfl⟩:=hk <;> simp [b46,lp,lps,c36,-indexAddrA,ix,iy,hi,hj,hj2,hj3,ho,ha,a1,a2,a3,fitZ,F,k0]
theorem last0 (q k1:Nat) (f c) (l:List Fld) (e:El) (j:Nat):rnd fn36 b46 q k1 (F9.S0 f c l e l.length j)=some (.exit 0,⟨(F9.S0 f c l e l.length j).t ++ [(23,.bool false)],(F9.S0 f c l e l.length j).h⟩):=by
  simp [b46,lp,lps,c36]
theorem lastR (q k1:Nat) (f c) (l:List Fld) (e:El) (j:Nat) (o:List Int) (key:Key) (hk:Ky key):rnd fn36 b46 q k1 (F9.SR f c l e l.length j o key)=some (.exit 0,⟨(F9.SR f c l e l.length j o key).t ++ [(23,.bool false)],(F9.SR f c l e l.length j o key).h⟩):=by
  have k0:=ns_keys o
  obtain ⟨g,rfl | rfl⟩:=hk <;> simp [b46,lp,lps,c36,k0]
def Sx (f:Bool) (c:Option Nat) (l:List Fld) (e:El) (i j:Nat) (o:List Int) (key:Key):St:=if o=[] then F9.S0 f c l e i j else F9.SR f c l e i j o key
abbrev Lp (K:Nat):=aLoop (aCode E (aCall E K) (dcall (aRun E K)) K 1 fn36 b46) (cleanS 1 ((firstReg b46).bind fn36.head))
theorem loop (K:Nat) (hK:30 ≤ K) (f c) (l:List Fld) (e:El) (ll:l.length ≤ 256) (ls:e.s.length ≤ 9223372036854775807):∀ (r:List Fld) (i j:Nat) (o:List Int) (key:Key) (k:Nat),l.drop i=r → i + r.length=l.length → j ≤ e.s.length → o.length + r.length=l.length → Ky key → r.length < k →
    (match sqr e.s r j o with
      | .inl (o',j') => ∃ key',Ky key' ∧ F10.Lp K k (Sx f c l e i j o key)=some (.exit 0,⟨(Sx f c l e l.length j' o' key').t ++ [(23,.bool false)],(Sx f c l e l.length j' o' key').h⟩)
      | .inr (er,p) => F10.Lp K k (Sx f c l e i j o key)=F9.Bad p er)
  | [],i,j,o,key,k,h1,h2,h3,h4,hk,h5 => by
    obtain ⟨k,rfl⟩:∃ q,k=q + 1:=⟨k - 1,by omega⟩
    simp at h2
    subst h2
    refine ⟨key,hk,?_⟩
    unfold Sx
    by_cases o0:o=[]
    · rw [if_pos o0]; exact aLoop_end (last0 K K f c l e j) (by simp)
    · rw [if_neg o0]; exact aLoop_end (lastR K K f c l e j o key hk) (by simp)
  | x :: r,i,j,o,key,k,h1,h2,h3,h4,hk,h5 => by
    obtain ⟨k,rfl⟩:∃ q,k=q + 1:=⟨k - 1,by omega⟩
    simp only [List.length_cons] at h2 h4 h5
    have hx:l[i]? = some x:=by
      have:=congrArg (fun l => l[0]?) h1
      simpa [List.getElem?_drop] using this
    have hd:l.drop (i + 1)=r:=by
      have:=congrArg List.tail h1
      simpa [List.tail_drop] using this
    unfold sqr
    have nx:∀ (v:Int) (j':Nat),j' ≤ e.s.length → (o=[] → ∃ key',Ky key' ∧ rnd fn36 b46 K K (F9.S0 f c l e i j)=some (.normal,F9.SR f c l e (i + 1) j' [v] key')) → (o ≠ [] → ∃ key',Ky key' ∧ rnd fn36 b46 K K (F9.SR f c l e i j o key)=some (.normal,F9.SR f c l e (i + 1) j' (o ++ [v]) key')) →
        (match sqr e.s r j' (o ++ [v]) with
          | .inl (o',j') => ∃ key',Ky key' ∧ F10.Lp K (k + 1) (Sx f c l e i j o key)=some (.exit 0,⟨(Sx f c l e l.length j' o' key').t ++ [(23,.bool false)],(Sx f c l e l.length j' o' key').h⟩)
          | .inr (er,p) => F10.Lp K (k + 1) (Sx f c l e i j o key)=F9.Bad p er):=by
      intro v j' hj' c1 c2
      have st:∃ key',Ky key' ∧ F10.Lp K (k + 1) (Sx f c l e i j o key)=F10.Lp K k (Sx f c l e (i + 1) j' (o ++ [v]) key'):=by
        have ne:¬ (o ++ [v]=[]):=by simp
        by_cases o0:o=[]
        · obtain ⟨key',q1,q2⟩:=c1 o0
          refine ⟨key',q1,?_⟩
          unfold Sx
          rw [if_pos o0,if_neg ne,o0]
          exact aLoop_succ q2
        · obtain ⟨key',q1,q2⟩:=c2 o0
          refine ⟨key',q1,?_⟩
          unfold Sx
          rw [if_neg o0,if_neg ne]
          exact aLoop_succ q2
      obtain ⟨key',q1,q2⟩:=st
      have I:=loop K hK f c l e ll ls r (i + 1) j' (o ++ [v]) key' k hd (by omega) hj' (by rw [List.length_append]; simp; omega) q1 (by omega)
      rw [q2]
      exact I
    have lo:o.length ≤ 1000:=by omega
    cases hy:e.s[j]? with
    | none =>
      have hj:=List.getElem?_eq_none_iff.1 hy
      obtain rfl:j=e.s.length:=by omega
      simp only
      by_cases ho:x.opt=true
      · rw [if_pos ho]
        exact nx (-1) e.s.length (by omega) (fun _ => ⟨_,⟨0,.inr rfl⟩,opt0 K K f c l e i e.s.length x hx (by omega) ls (fun y h => by rw [hy] at h; cases h) ho⟩) (fun _ => optR K K f c l e i e.s.length o key hk x hx (by omega) lo ls (fun y h => by rw [hy] at h; cases h) ho)
      · rw [if_neg ho]
        have ho':x.opt=false:=by simpa using ho
        have F:RC K 7 (-1) (fR [] 7):=fun h => rnil 7 (-1) (by omega) K (by omega) 0 h
        show F10.Lp K (k + 1) (Sx f c l e i e.s.length o key)=F9.Bad [] 7
        unfold Sx
        by_cases o0:o=[]
        · rw [if_pos o0]; exact aLoop_end (short0 K K f c l e i x hx ho' F) (by simp)
        · rw [if_neg o0]; exact aLoop_end (shortR K K f c l e i o key hk x hx ho' F) (by simp)
    | some y =>
      have hj:j < e.s.length:=(List.getElem?_eq_some_iff.1 hy).1
      simp only
      by_cases m:F7.mt x y=true
      · rw [if_pos m]
        exact nx j (j + 1) (by omega) (fun _ => ⟨_,⟨0,.inl rfl⟩,hit0 K K f c l e y i j x hx hy (by omega) ls m⟩) (fun _ => hitR K K f c l e y i j o key hk x hx hy (by omega) lo ls m)
      rw [if_neg m]
      have m':F7.mt x y=false:=by simpa using m
      by_cases ho:x.opt=true
      · rw [if_pos ho]
        exact nx (-1) j (by omega) (fun _ => ⟨_,⟨0,.inr rfl⟩,opt0 K K f c l e i j x hx (by omega) ls (fun y' h => by rw [hy] at h; cases h; exact m') ho⟩) (fun _ => optR K K f c l e i j o key hk x hx (by omega) lo ls (fun y' h => by rw [hy] at h; cases h; exact m') ho)
      · rw [if_neg ho]
        have ho':x.opt=false:=by simpa using ho
        have F:RC K 9 j (fR [(j:Int)] 9):=fun h => rone 9 j (by omega) K (by omega) 0 h
        show F10.Lp K (k + 1) (Sx f c l e i j o key)=F9.Bad [(j:Int)] 9
        unfold Sx
        by_cases o0:o=[]
        · rw [if_pos o0]; exact aLoop_end (wrong0 K K f c l e y i j x hx hy ls m' ho' F) (by simp)
        · rw [if_neg o0]; exact aLoop_end (wrongR K K f c l e y i j o key hk x hx hy ls m' ho' F) (by simp)
def qR:List Int ⊕ (Int × List Int) → AV
  | .inl o => .tup [.sl o.isEmpty (ns o) (if o.isEmpty then some 0 else none),fR [] 0]
  | .inr (e,p) => .tup [.sl true [] (some 0),fR p e]
theorem rsequence (f c) (l:List Fld) (e:El) (t:Int × Bool × Int) (ls:e.s.length ≤ 9223372036854775807) (l2:l.length ≤ 9223372036854775807):Con E (l.length + 60) 36 [e.av,.agg [.int .u8 t.1,.bool t.2.1,.int .u32 t.2.2],.sl f (l.map Fld.av) c] (qR (sq e t l)):=by
  obtain ⟨K,hK⟩:∃ K,l.length + 59=K:=⟨_,rfl⟩
  have eK:l.length + 60=K + 1:=by omega
  rw [eK]
  have f3:=rnil 3 (-1) (by omega) K (by omega) 0
  have f9:=rnil 9 (-1) (by omega) K (by omega) 0
  try simp [fR] at f3
  try simp [fR] at f9
  refine con_of E_fn36 (by simp [AV.pureL,AV.pure,El.av_pure]) (Nat.le_of_ble_eq_true rfl) rfl rfl (g:=[]) ?_
  rw [body_36,c36]
  unfold sq
  by_cases big:256 < l.length
  · have big':(256:Int) < l.length:=by omega
    rw [if_pos big]
    simp [El.av_eq,big,big',f3,qR]
  rw [if_neg big]
  have big':¬ (256:Int) < l.length:=by omega
  by_cases a:e.c=t.1
  case neg => simp [El.av_eq,big,big',a,f9,qR,fitZ]
  by_cases b:e.k=t.2.1
  case neg => simp [El.av_eq,big,big',a,b,f9,qR,fitZ]
  by_cases d:e.n=t.2.2
  case neg => simp [El.av_eq,big,big',a,b,d,f9,qR,fitZ]
  rw [if_neg (fun h => h ⟨a,b,d⟩)]
  have L:=F10.loop K (by omega) f c l e (by omega) ls l 0 0 [] (1,55,0) K rfl (by omega) (by omega) (by simp) ⟨0,.inl rfl⟩ (by omega)
  rw [Sx,if_pos rfl] at L
  cases hr:sqr e.s l 0 [] with
  | inr p =>
    obtain ⟨er,p⟩:=p
    rw [hr] at L
    simp only [qR,fR]
    simp [F10.Lp,b46,lp,lps,c36,firstReg,F9.S0,bx,ec,a,b,d] at L
    simp [El.av_eq,-s_round,big,big',a,b,d,fitZ,L]
  | inl p =>
    obtain ⟨o,j⟩:=p
    have ln:=sqr_len e.s l 0 [] o j (by omega) hr
    simp at ln
    rw [hr] at L
    simp only at L
    obtain ⟨key,hk,L⟩:=L
    unfold Sx at L
    have kj:=ns_keys o
    have pj:=ns_pure o
    have lj:=ns_len o
    simp only
    by_cases o0:o=[]
    · subst o0
      rw [if_pos rfl] at L
      simp [F10.Lp,b46,lp,lps,c36,firstReg,F9.S0,bx,ec,a,b,d] at L
      by_cases hj:j < e.s.length
      · have hj':(j:Int) < e.s.length:=by omega
        have f8:=rone 8 j (by omega) K (by omega) 0
        try simp [fR] at f8
        rw [if_pos hj,qR]
        simp [El.av_eq,-s_round,big,big',a,b,d,fitZ,L,hj,hj',f8]
      · have hj':¬ (j:Int) < e.s.length:=by omega
        rw [if_neg hj,qR]
        simp [El.av_eq,-s_round,big,big',a,b,d,fitZ,L,hj,hj']
    · have e0:o.isEmpty=false:=by cases o with | nil => exact absurd rfl o0 | cons x r => rfl
      rw [if_neg o0] at L
      simp [F10.Lp,b46,lp,lps,c36,firstReg,F9.S0,F9.SR,bx,ec,a,b,d] at L
      by_cases hj:j < e.s.length
      · have hj':(j:Int) < e.s.length:=by omega
        have f8:=rone 8 j (by omega) K (by omega) 0
        try simp [fR] at f8
        rw [if_pos hj,qR]
        obtain ⟨g,rfl | rfl⟩:=hk <;> simp [El.av_eq,-s_round,big,big',a,b,d,fitZ,L,hj,hj',f8,kj]
      · have hj':¬ (j:Int) < e.s.length:=by omega
        rw [if_neg hj,qR]
        obtain ⟨g,rfl | rfl⟩:=hk <;> simp [El.av_eq,-s_round,big,big',a,b,d,fitZ,L,hj,hj',kj,pj,lj,e0,o0]
end F10
end
end
section
open Ab Go TabE Sp E34 F1 F2 F4 F5 F6 F7 F8
namespace F11
def ck (s:List El):List Fld → List Int → Nat → Option Nat
  | [],[],j => some j
  | x :: r,v :: o,j => if v = -1 ∧ x.opt=true then ck s r o j else match s[j]? with
    | some y => if v=j ∧ F7.mt x y=true then ck s r o (j + 1) else none
    | none => none
  | _,_,_ => none
theorem sqr_ck (s:List El):∀ (r:List Fld) (j:Nat) (o o':List Int) (j':Nat),sqr s r j o=.inl (o',j') → ∃ t,o'=o ++ t ∧ ck s r t j=some j'
  | [],j,o,o',j',h => by unfold sqr at h; cases h; exact ⟨[],by simp,rfl⟩
  | x :: r,j,o,o',j',h => by
    unfold sqr at h
    cases hy:s[j]? with
    | none =>
      rw [hy] at h
      simp only at h
      split at h
      · rename_i ho
        obtain ⟨t,e,k⟩:=sqr_ck s r j _ o' j' h
        exact ⟨-1 :: t,by rw [e]; simp,by unfold ck; rw [if_pos ⟨rfl,ho⟩]; exact k⟩
      · cases h
    | some y =>
      rw [hy] at h
      simp only at h
      split at h
      · rename_i m
        obtain ⟨t,e,k⟩:=sqr_ck s r (j + 1) _ o' j' h
        exact ⟨(j:Int) :: t,by rw [e]; simp,by unfold ck; rw [if_neg (by omega),hy]; simp only; rw [if_pos ⟨trivial,m⟩]; exact k⟩
      · split at h
        · rename_i ho
          obtain ⟨t,e,k⟩:=sqr_ck s r j _ o' j' h
          exact ⟨-1 :: t,by rw [e]; simp,by unfold ck; rw [if_pos ⟨rfl,ho⟩]; exact k⟩
        · cases h
theorem sqr_bad (s:List El):∀ (r:List Fld) (j:Nat) (o:List Int) (e:Int) (p:List Int),sqr s r j o=.inr (e,p) → e ≠ 0 ∧ p.length < 2
  | [],j,o,e,p,h => by unfold sqr at h; cases h
  | x :: r,j,o,e,p,h => by
    unfold sqr at h
    cases hy:s[j]? with
    | none =>
      rw [hy] at h
      simp only at h
      split at h
      · exact sqr_bad s r j _ e p h
      · cases h; simp
    | some y =>
      rw [hy] at h
      simp only at h
      split at h
      · exact sqr_bad s r (j + 1) _ e p h
      · split at h
        · exact sqr_bad s r j _ e p h
        · cases h; simp
theorem sq_bad {e:El} {t:Int × Bool × Int} {l:List Fld} {er:Int} {p:List Int} (h:sq e t l=.inr (er,p)):er ≠ 0 ∧ p.length < 2:=by
  unfold sq at h
  split at h
  · cases h; simp
  split at h
  · cases h; simp
  split at h
  · rename_i q hq; cases h; exact sqr_bad _ _ _ _ _ _ hq
  · split at h
    · cases h; simp
    · cases h
theorem sq_ok {e:El} {t:Int × Bool × Int} {l:List Fld} {o:List Int} (h:sq e t l=.inl o):o.length=l.length ∧ ck e.s l o 0=some e.s.length ∧ l.length ≤ 256 ∧ e.c=t.1 ∧ e.k=t.2.1 ∧ e.n=t.2.2:=by
  unfold sq at h
  split at h
  · cases h
  rename_i big
  split at h
  · cases h
  rename_i tg
  split at h
  · cases h
  · rename_i o' j hq
    split at h
    · cases h
    · rename_i hj
      cases h
      have ln:=sqr_len e.s l 0 [] o j (by omega) hq
      obtain ⟨t,e1,k⟩:=sqr_ck e.s l 0 [] o j hq
      simp at e1 ln
      subst e1
      have tg':=Classical.not_not.1 tg
      exact ⟨ln.1,by rw [k]; congr 1; omega,by omega,tg'⟩
end F11
end
