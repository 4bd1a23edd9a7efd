/- Own work, no conditions. -/
import Derived.Test.YtbiildmljbcmeaaDoorF6
import Derived.Test.YtbiildmljbcmeaaDoorOP
import Derived.Test.YtbiildmljbcmeaaDoorP5
import Derived.Test.YtbiildmljbcmeaaDoorB40
set_option maxRecDepth 20000
set_option linter.unusedSimpArgs false
set_option linter.unusedVariables false
set_option maxHeartbeats 16000000
section
open Ab Go TabE
attribute [local simp ↓] s_seq s_reg s_regd s_cond s_block s_cons s_consG s_regD
attribute [local simp] s_nil s_loop s_round s_lpn s_lpe s_lpr firstReg s_gt s_gf s_wb s_wu s_val s_valN s_skip s_calls s_callP s_cax lookR flatR pureKs s_ret s_rgx s_sqn s_sqr s_sqe s_cdb s_bkn s_bkr s_bke s_exit s_ret' s_skip' s_finr s_finn s_fin1 s_fix s_clean s_gc0 o_tmp o_int o_bool o_nil o_str o_fn o_nil' l_hit l_miss l_nil ol_nil ol_cons ol_some x_move x_assign x_pick pk_t pk_f x_bin bn_s x_un x_extract x_callF cl_no x_callB x_callBF frzV x_conv cvx convA frame0 binA intOp resL resA results1 sealLW AV.pure AV.pureL keepT x_alloc x_box bxx x_build bdx x_buildSlice bsx x_buildSliceF bsf x_load ldx x_store stx x_slice slx x_fieldAddr x_field x_index ixx x_indexAddr iax x_makeSlice msx x_makeSliceF msf x_nilCheck newK genOf setK lookK fillA writeL writeC readC conts TyI.mk1 sliceA boundsA boundsB fitsA numA indexAddrA fieldAddrA partA fieldA indexA appendA copyA builtinA AV.cells chunk gcH reach keysT keepK inKs AV.keys AV.keysL Ty.isAgg eq1 eqL convA.go ltI w_u8 w_u32 w_u64 w_i64 w_fdiv w_tdiv w_tmod IntKind.bits unA sc_int sc_bool sc_str sc_sl sc_ref sc_ptr sc_pel sc_nilp sc_fn sc_nilf sc_if sc_nili sc_agg sc_tup sc_mem bs_pure bs_kl bs_length bs_cells bs_all sl_row sealRow sealY sl_int sl_bool sl_str sl_sl sl_nilp sl_nilf sl_nili sl_pel sl_agg sl_tup sl_fn sl_if nat_1 bs_cons bs_nil i_beq i_bne x_mkF x_mkI x_tassert x_panic s_pan s_sqp s_bkp s_finp s_fixp s_lpp s_rgp s_retp s_site s_stxN s_stxO x_callT clx El.avs_len s_dyn0 s_rgy barOf dynChk footL dynOK disjK keysOp opVals Op.operands
section
open Ab Go TabE Sp E34 F1 Rw F5 F6
namespace F7
def mt (x:Fld) (y:El):Bool:=x.any || (decide (x.c=y.c) && (decide (x.k=y.k) && decide (x.n=y.n)))
theorem matches_ (x:Fld) (y:El):Con E 10 115 [x.av,y.av] (.bool (mt x y)):=by
  refine con_of E_fn115 (by simp [AV.pureL,AV.pure,El.av_pure,Fld.cells]) (Nat.le_of_ble_eq_true rfl) rfl rfl (g:=[]) ?_
  rw [body_115,c115]
  unfold mt
  cases ha:x.any
  · by_cases a:x.c=y.c <;> by_cases b:x.k=y.k <;> by_cases c:x.n=y.n <;> simp [El.av_eq,Fld.cells,ha,a,b,c,fitZ]
  · simp [El.av_eq,Fld.cells,ha,fitZ]
def sqr (s:List El):List Fld → Nat → List Int → (List Int × Nat) ⊕ (Int × List Int)
  | [],j,o => .inl (o,j)
  | x :: r,j,o => match s[j]? with
    | some y => if mt x y=true then sqr s r (j + 1) (o ++ [(j:Int)]) else if x.opt=true then sqr s r j (o ++ [-1]) else .inr (9,[(j:Int)])
    | none => if x.opt=true then sqr s r j (o ++ [-1]) else .inr (7,[])
theorem fd_at (f c) (l:List Fld) (i:Nat) (x:Fld) (h:l[i]? = some x):∀ hp,indexAddrA E 76 (.sl f (l.map Fld.av) c) (.int .i64 i) hp=some (.pel [.int .u8 x.c,.bool x.k,.int .u32 x.n,.bool x.any,.bool x.opt]):=by
  intro hp
  have hi:i < l.length:=(List.getElem?_eq_some_iff.1 h).1
  unfold indexAddrA
  simp only [E_ty76,E_ty75]
  rw [if_pos ⟨by omega,by rw [List.length_map]; omega⟩]
  simp only [Int.toNat_natCast,List.getElem?_map,h,Option.map_some]
  rfl
def zr (z:Nat):List AV:=List.replicate z (.int .i64 0)
theorem zr_eq (z:Nat):List.replicate z (AV.int .i64 0)=zr z:=rfl
theorem zr_len (z:Nat):(zr z).length=z:=List.length_replicate
theorem zr_ns (z:Nat):zr z=ns (List.replicate z 0):=by simp [zr,ns]
theorem zr_pure (z:Nat):AV.pureL (zr z)=true:=by rw [zr_ns]; exact ns_pure _
theorem zr_keys (z:Nat):AV.keysL (zr z)=[]:=AV.keysL_pure _ (zr_pure z)
abbrev rw_ (o:List Int) (z:Nat):AObj:=⟨ns o ++ zr z,true,true,true,1,false⟩
theorem rw_keys (o z):AV.keysL (ns o ++ zr z)=[]:=by rw [El.keysL_app,ns_keys,zr_keys]; rfl
theorem rw_len (o z):(ns o ++ zr z).length=o.length + z:=by rw [List.length_append,ns_len,zr_len]
theorem rw_take (o:List Int) (z):(ns o ++ zr z).take o.length=ns o:=by rw [← ns_len o,List.take_left']; rfl
theorem rw_drop (o:List Int) (z):(ns o ++ zr (z + 1)).drop (o.length + 1)=zr z:=by
  have:(ns o ++ zr (z + 1)).drop (o.length + 1)=((ns o ++ zr (z + 1)).drop (ns o).length).drop 1:=by rw [List.drop_drop,ns_len]
  rw [this,List.drop_left']; rfl
  rfl
def b45:Code:=lp c69 0
abbrev S (f:Bool) (c:Option Nat) (l:List Fld) (e:El) (i j:Nat) (o:List Int) (z:Nat):St:=⟨[(3,.ptr (1,3,0) 0),(7,.ptr (1,7,0) 0),(8,.int .i64 (j:Int)),(9,.ref (1,26,0) 0 o.length (some l.length)),(27,.sl f (l.map Fld.av) c),(28,.int .i64 (l.length:Int)),(29,.int .i64 (i:Int))],[((1,3,0),bx (ec e)),((1,7,0),bx [.sl true [] (some 0),.int .i64 0]),((1,26,0),rw_ o z)]⟩
abbrev MC (q:Nat) (x:Fld) (y:El):Prop:=∀ h,aCall E q 0 115 [x.av,y.av] h=some (.ret (.bool (mt x y)),h)
abbrev Bad (p:List Int) (e:Int):Option (AExit × St):=some (.ret,⟨[(6,.sl true [] (some 0)),(7,.ptr (1,7,0) 0)],[((1,7,0),bx [.sl p.isEmpty (ns p) (some p.length),.int .i64 e])]⟩)
theorem hit (q k1:Nat) (f c) (l:List Fld) (e y:El) (i j:Nat) (o:List Int) (z:Nat) (x:Fld) (hx:l[i]? = some x) (hy:e.s[j]? = some y) (ll:l.length ≤ 1000) (hz:o.length + (z + 1)=l.length) (ls:e.s.length ≤ 9223372036854775807) (M:MC q x y) (m:mt x y=true) :
    rndO fn69 b45 q k1 (S f c l e i j o (z + 1))=some (.normal,S f c l e (i + 1) (j + 1) (o ++ [(j:Int)]) z):=by
  have hi:i < l.length:=(List.getElem?_eq_some_iff.1 hx).1
  have hj:j < e.s.length:=(List.getElem?_eq_some_iff.1 hy).1
  have ix:=fd_at f c l i x hx
  have iy:=fun hp => El.at_ e.fs e.cs e.s j y hy hp
  have w:=w64' ((i:Int) + 1) (by omega) (by omega)
  have w2:=w64' ((j:Int) + 1) (by omega) (by omega)
  rw [MC,El.av_eq,Fld.av,Fld.cells,m] at M
  have fit:o.length + 1 ≤ l.length:=by omega
  have fit2:o.length ≤ l.length:=by omega
  have k0:=rw_keys o (z + 1)
  have k1':=rw_keys (o ++ [(j:Int)]) z
  have e1:ns (o ++ [(j:Int)])=ns o ++ [.int .i64 (j:Int)]:=ns_app _ _
  rw [e1] at k1'
  simp at k1'
  simp [b45,lp,lps,c69,-indexAddrA,ix,iy,w,w2,hi,hj,M,fit,fit2,k0,k1',e1,rw_len,rw_take,rw_drop,zr_len,hz]
theorem opt (q k1:Nat) (f c) (l:List Fld) (e:El) (i j:Nat) (o:List Int) (z:Nat) (x:Fld) (hx:l[i]? = some x) (ll:l.length ≤ 1000) (hz:o.length + (z + 1)=l.length) (ls:e.s.length ≤ 9223372036854775807) (M:∀ y,e.s[j]? = some y → MC q x y ∧ mt x y=false) (ho:x.opt=true) :
    rndO fn69 b45 q k1 (S f c l e i j o (z + 1))=some (.normal,S f c l e (i + 1) j (o ++ [-1]) z):=by
  have hi:i < l.length:=(List.getElem?_eq_some_iff.1 hx).1
  have ix:=fd_at f c l i x hx
  have w:=w64' ((i:Int) + 1) (by omega) (by omega)
  have fit:o.length + 1 ≤ l.length:=by omega
  have fit2:o.length ≤ l.length:=by omega
  have k0:=rw_keys o (z + 1)
  have k1':=rw_keys (o ++ [-1]) z
  have e1:ns (o ++ [-1])=ns o ++ [.int .i64 (-1)]:=ns_app _ _
  rw [e1] at k1'
  simp at k1'
  cases hy:e.s[j]? with
  | none =>
    have hj:=List.getElem?_eq_none_iff.1 hy
    have hj':¬ j < e.s.length:=by omega
    simp [b45,lp,lps,c69,-indexAddrA,ix,w,hi,hj',ho,fit,fit2,k0,k1',e1,rw_len,rw_take,rw_drop,zr_len,hz]
  | some y =>
    have hj:j < e.s.length:=(List.getElem?_eq_some_iff.1 hy).1
    have iy:=fun hp => El.at_ e.fs e.cs e.s j y hy hp
    obtain ⟨M,m⟩:=M y hy
    rw [MC,El.av_eq,Fld.av,Fld.cells,m,ho] at M
    simp [b45,lp,lps,c69,-indexAddrA,ix,iy,w,hi,hj,M,ho,fit,fit2,k0,k1',e1,rw_len,rw_take,rw_drop,zr_len,hz]
theorem short (q k1:Nat) (f c) (l:List Fld) (e:El) (i:Nat) (o:List Int) (z:Nat) (x:Fld) (hx:l[i]? = some x) (ll:l.length ≤ 1000) (ho:x.opt=false) (F:∀ h,aCall E q 0 114 [.int .i64 7,.sl true [] (some 0)] h=some (.ret (fF [] 7),h)) :
    rndO fn69 b45 q k1 (S f c l e i e.s.length o z)=Bad [] 7:=by
  have hi:i < l.length:=(List.getElem?_eq_some_iff.1 hx).1
  have ix:=fd_at f c l i x hx
  have k0:=rw_keys o z
  simp [fF] at F
  simp [b45,lp,lps,c69,-indexAddrA,ix,hi,ho,k0,F]
theorem wrong (q k1:Nat) (f c) (l:List Fld) (e y:El) (i j:Nat) (o:List Int) (z:Nat) (x:Fld) (hx:l[i]? = some x) (hy:e.s[j]? = some y) (ll:l.length ≤ 1000) (ls:e.s.length ≤ 9223372036854775807) (M:MC q x y) (m:mt x y=false) (ho:x.opt=false) (F:∀ h,aCall E q 0 114 [.int .i64 9,.sl false [.int .i64 (j:Int)] (some 1)] h=some (.ret (fF [(j:Int)] 9),h)) :
    rndO fn69 b45 q k1 (S f c l e i j o z)=Bad [(j:Int)] 9:=by
  have hi:i < l.length:=(List.getElem?_eq_some_iff.1 hx).1
  have hj:j < e.s.length:=(List.getElem?_eq_some_iff.1 hy).1
  have hj2:¬ j=e.s.length:=by omega
  have hj3:¬ (j:Int)=e.s.length:=by omega
  have ix:=fd_at f c l i x hx
  have iy:=fun hp => El.at_ e.fs e.cs e.s j y hy hp
  have k0:=rw_keys o z
  rw [MC,El.av_eq,Fld.av,Fld.cells,m,ho] at M
  simp [fF] at F
  simp [b45,lp,lps,c69,-indexAddrA,ix,iy,hi,hj,hj2,hj3,ho,k0,F,M]
theorem last (q k1:Nat) (f c) (l:List Fld) (e:El) (j:Nat) (o:List Int) (z:Nat):rndO fn69 b45 q k1 (S f c l e l.length j o z)=some (.exit 1,⟨(S f c l e l.length j o z).t ++ [(30,.bool false)],(S f c l e l.length j o z).h⟩):=by
  have k0:=rw_keys o z
  simp [b45,lp,lps,c69,k0]
end F7
end
section
open Ab Go TabE Sp E34 F1 Rw F5 F6 F7
namespace F8
theorem sqr_len (s:List El):∀ (r:List Fld) (j:Nat) (o:List Int) (o':List Int) (j':Nat),j ≤ s.length → sqr s r j o=.inl (o',j') → o'.length=o.length + r.length ∧ j' ≤ s.length
  | [],j,o,o',j',hj,h => by unfold sqr at h; cases h; simp [hj]
  | x :: r,j,o,o',j',hj,h => by
    unfold sqr at h
    cases hy:s[j]? with
    | none =>
      rw [hy] at h
      simp only at h
      split at h
      · have:=sqr_len s r j _ o' j' hj h; simp at this ⊢; omega
      · cases h
    | some y =>
      rw [hy] at h
      have hl:j < s.length:=(List.getElem?_eq_some_iff.1 hy).1
      simp only at h
      split at h
      · have:=sqr_len s r (j + 1) _ o' j' (by omega) h; simp at this ⊢; omega
      · split at h
        · have:=sqr_len s r j _ o' j' hj h; simp at this ⊢; omega
        · cases h
def sq (e:El) (t:Int × Bool × Int) (l:List Fld):List Int ⊕ (Int × List Int) :=
  if 256 < l.length then .inr (3,[]) else if ¬ (e.c=t.1 ∧ e.k=t.2.1 ∧ e.n=t.2.2) then .inr (9,[]) else
  match sqr e.s l 0 [] with
  | .inr p => .inr p
  | .inl (o,j) => if j < e.s.length then .inr (8,[(j:Int)]) else .inl o
def qF:List Int ⊕ (Int × List Int) → AV
  | .inl o => .tup [.sl false (ns o) (some o.length),fF [] 0]
  | .inr (e,p) => .tup [.sl true [] (some 0),fF p e]
abbrev Lp (K:Nat):=aLoop (aCode E (site fn69 (aRun E K)) (dcall (aRun E K)) K 1 fn69 b45) (cleanS 1 ((firstReg b45).bind fn69.head))
theorem loop (K:Nat) (hK:30 ≤ K) (f c) (l:List Fld) (e:El) (ll:l.length ≤ 1000) (ls:e.s.length ≤ 9223372036854775807):∀ (r:List Fld) (i j:Nat) (o:List Int) (k:Nat),l.drop i=r → i + r.length=l.length → j ≤ e.s.length → o.length + r.length=l.length → r.length < k →
    Lp K k (F7.S f c l e i j o r.length)=(match sqr e.s r j o with
      | .inl (o',j') => some (.exit 1,⟨(F7.S f c l e l.length j' o' 0).t ++ [(30,.bool false)],(F7.S f c l e l.length j' o' 0).h⟩)
      | .inr (er,p) => Bad p er)
  | [],i,j,o,k,h1,h2,h3,h4,h5 => by
    obtain ⟨k,rfl⟩:∃ q,k=q + 1:=⟨k - 1,by omega⟩
    simp at h2
    subst h2
    exact aLoop_end (last K K f c l e j o 0) (by simp)
  | x :: r,i,j,o,k,h1,h2,h3,h4,h5 => by
    obtain ⟨k,rfl⟩:∃ q,k=q + 1:=⟨k - 1,by omega⟩
    simp only [List.length_cons] at h2 h4 h5 ⊢
    have hx:l[i]? = some x:=by
      have:=congrArg (fun l => l[0]?) h1
      simpa [List.getElem?_drop] using this
    have hd:l.drop (i + 1)=r:=by
      have:=congrArg List.tail h1
      simpa [List.tail_drop] using this
    have M:∀ y,MC K x y:=fun y h => matches_ x y K (by omega) 0 h
    unfold sqr
    have goOpt:x.opt=true → (∀ y,e.s[j]? = some y → mt x y=false) → Lp K (k + 1) (F7.S f c l e i j o (r.length + 1))=(match sqr e.s r j (o ++ [-1]) with
      | .inl (o',j') => some (.exit 1,⟨(F7.S f c l e l.length j' o' 0).t ++ [(30,.bool false)],(F7.S f c l e l.length j' o' 0).h⟩)
      | .inr (er,p) => Bad p er):=fun ho hm => by
      have I:=loop K hK f c l e ll ls r (i + 1) j (o ++ [-1]) k hd (by omega) h3 (by rw [List.length_append]; simp; omega) (by omega)
      exact (aLoop_succ (opt K K f c l e i j o r.length x hx ll (by omega) ls (fun y hy => ⟨M y,hm y hy⟩) ho)).trans I
    cases hy:e.s[j]? with
    | none =>
      have hj:=List.getElem?_eq_none_iff.1 hy
      obtain rfl:j=e.s.length:=by omega
      simp only
      by_cases ho:x.opt=true
      · rw [if_pos ho]; exact goOpt ho fun y h => by rw [hy] at h; cases h
      · rw [if_neg ho]
        exact aLoop_end (short K K f c l e i o (r.length + 1) x hx ll (by simpa using ho) fun h => fnil 7 K (by omega) 0 h) (by simp)
    | some y =>
      have hj:j < e.s.length:=(List.getElem?_eq_some_iff.1 hy).1
      simp only
      by_cases m:mt x y=true
      · rw [if_pos m]
        have I:=loop K hK f c l e ll ls r (i + 1) (j + 1) (o ++ [(j:Int)]) k hd (by omega) (by omega) (by rw [List.length_append]; simp; omega) (by omega)
        exact (aLoop_succ (hit K K f c l e y i j o r.length x hx hy ll (by omega) ls (M y) m)).trans I
      rw [if_neg m]
      have m':mt x y=false:=by simpa using m
      by_cases ho:x.opt=true
      · rw [if_pos ho]; exact goOpt ho fun y' h => by rw [hy] at h; cases h; exact m'
      · rw [if_neg ho]
        exact aLoop_end (wrong K K f c l e y i j o (r.length + 1) x hx hy ll ls (M y) m' (by simpa using ho) fun h => fone 9 j (some 1) K (by omega) 0 h) (by simp)
theorem sequence (f c) (l:List Fld) (e:El) (t:Int × Bool × Int) (ls:e.s.length ≤ 9223372036854775807) (l2:l.length ≤ 9223372036854775807):Con E (l.length + 60) 69 [e.av,.agg [.int .u8 t.1,.bool t.2.1,.int .u32 t.2.2],.sl f (l.map Fld.av) c] (qF (sq e t l)):=by
  obtain ⟨K,hK⟩:∃ K,l.length + 59=K:=⟨_,rfl⟩
  have eK:l.length + 60=K + 1:=by omega
  rw [eK]
  have f3:=fnil 3 K (by omega) 0
  have f9:=fnil 9 K (by omega) 0
  try simp [fF] at f3
  try simp [fF] at f9
  refine con_ofO E_fn69 (by simp [AV.pureL,AV.pure,El.av_pure]) (Nat.le_of_ble_eq_true rfl) rfl (g:=[]) ?_
  rw [body_69,c69]
  unfold sq
  by_cases big:256 < l.length
  · have big':(256:Int) < l.length:=by omega
    rw [if_pos big]
    simp [El.av_eq,big,big',f3,qF]
  rw [if_neg big]
  have big':¬ (256:Int) < l.length:=by omega
  by_cases a:e.c=t.1
  case neg => simp [El.av_eq,big,big',a,f9,qF,fitZ]
  by_cases b:e.k=t.2.1
  case neg => simp [El.av_eq,big,big',a,b,f9,qF,fitZ]
  by_cases d:e.n=t.2.2
  case neg => simp [El.av_eq,big,big',a,b,d,f9,qF,fitZ]
  rw [if_neg (fun h => h ⟨a,b,d⟩)]
  have L:=loop K (by omega) f c l e (by omega) ls l 0 0 [] K rfl (by omega) (by omega) (by simp) (by omega)
  have zz:=zr_eq l.length
  have mk:(l.length:Int) ≤ 70368744177664:=by omega
  have mk2:(l.length:Int) * 8 ≤ 70368744177664:=by omega
  have n0:(0:Int) ≤ (l.length:Int):=by omega
  have k0:=rw_keys [] l.length
  cases hr:sqr e.s l 0 [] with
  | inr p =>
    obtain ⟨er,p⟩:=p
    rw [hr] at L
    simp only [qF,fF]
    simp [F8.Lp,b45,lp,lps,c69,firstReg,F7.S,bx,ec,a,b,d,rw_] at L
    simp at k0
    simp [El.av_eq,-s_round,big,big',a,b,d,fitZ,L,zz,mk,mk2,k0,zr_len,zr_pure]
  | inl p =>
    obtain ⟨o,j⟩:=p
    have ln:=sqr_len e.s l 0 [] o j (by omega) hr
    simp at ln
    rw [hr] at L
    simp [F8.Lp,b45,lp,lps,c69,firstReg,F7.S,bx,ec,a,b,d,rw_] at L
    simp at k0
    have z0:zr 0=[]:=rfl
    rw [z0] at L
    simp at L
    have kj:=ns_keys o
    have pj:=ns_pure o
    have lj:=ns_len o
    simp only
    by_cases hj:j < e.s.length
    · have hj':(j:Int) < e.s.length:=by omega
      have f8:=fone 8 j (some 1) K (by omega) 0
      simp [fF] at f8
      rw [if_pos hj,qF]
      simp [El.av_eq,-s_round,big,big',a,b,d,fitZ,L,zz,mk,mk2,k0,zr_len,zr_pure,hj,hj',f8,kj,pj]
    · have hj':¬ (j:Int) < e.s.length:=by omega
      rw [if_neg hj,qF]
      simp [El.av_eq,-s_round,big,big',a,b,d,fitZ,L,zz,mk,mk2,k0,zr_len,zr_pure,hj,hj',kj,pj,lj,ln.1]
end F8
end
section
open Ab Go TabE Sp E34 F1 Rw F5 F6 F7 F8
namespace F9
def b46:Code:=lp c36 0
abbrev S0 (f:Bool) (c:Option Nat) (l:List Fld) (e:El) (i j:Nat):St:=⟨[(2,.sl f (l.map Fld.av) c),(3,.ptr (1,3,0) 0),(7,.ptr (1,7,0) 0),(8,.sl true [] (some 0)),(9,.int .i64 (j:Int)),(10,.int .i64 (i:Int))],[((1,3,0),bx (ec e)),((1,7,0),bx [.sl true [] (some 0),.int .i64 0])]⟩
abbrev SR (f:Bool) (c:Option Nat) (l:List Fld) (e:El) (i j:Nat) (o:List Int) (key:Key):St:=⟨[(2,.sl f (l.map Fld.av) c),(3,.ptr (1,3,0) 0),(7,.ptr (1,7,0) 0),(8,.ref key 0 o.length none),(9,.int .i64 (j:Int)),(10,.int .i64 (i:Int))],[((1,3,0),bx (ec e)),((1,7,0),bx [.sl true [] (some 0),.int .i64 0]),(key,⟨ns o,true,true,false,1,false⟩)]⟩
abbrev Ky (key:Key):Prop:=∃ g,key=(1,55,g) ∨ key=(1,65,g)
abbrev Bad (p:List Int) (e:Int):Option (AExit × St):=some (.ret,⟨[(6,.sl true [] (some 0)),(7,.ptr (1,7,0) 0)],[((1,7,0),bx [.sl p.isEmpty (ns p) (if p.isEmpty then some 0 else none),.int .i64 e])]⟩)
theorem mt_cases (x:Fld) (y:El):(F7.mt x y=true ∧ (x.any=true ∨ (x.any=false ∧ x.c=y.c ∧ x.k=y.k ∧ x.n=y.n))) ∨ (F7.mt x y=false ∧ x.any=false ∧ (¬ x.c=y.c ∨ (x.c=y.c ∧ ¬ x.k=y.k) ∨ (x.c=y.c ∧ x.k=y.k ∧ ¬ x.n=y.n))):=by
  unfold F7.mt
  cases ha:x.any
  · by_cases a:x.c=y.c
    · by_cases b:x.k=y.k
      · by_cases c:x.n=y.n
        · exact .inl ⟨by simp [a,b,c],.inr ⟨rfl,a,b,c⟩⟩
        · exact .inr ⟨by simp [a,b,c],rfl,.inr (.inr ⟨a,b,c⟩)⟩
      · exact .inr ⟨by simp [a,b],rfl,.inr (.inl ⟨a,b⟩)⟩
    · exact .inr ⟨by simp [a],rfl,.inl a⟩
  · exact .inl ⟨by simp,.inl rfl⟩
theorem hit0 (q k1:Nat) (f c) (l:List Fld) (e y:El) (i j:Nat) (x:Fld) (hx:l[i]? = some x) (hy:e.s[j]? = some y) (ll:l.length ≤ 1000) (ls:e.s.length ≤ 9223372036854775807) (m:F7.mt x y=true) :
    rnd fn36 b46 q k1 (S0 f c l e i j)=some (.normal,SR f c l e (i + 1) (j + 1) [(j:Int)] (1,55,0)):=by
  have hi:i < l.length:=(List.getElem?_eq_some_iff.1 hx).1
  have hj:j < e.s.length:=(List.getElem?_eq_some_iff.1 hy).1
  have ix:=fd_at f c l i x hx
  have iy:=fun hp => El.at_ e.fs e.cs e.s j y hy hp
  have w:=w64' ((i:Int) + 1) (by omega) (by omega)
  have w2:=w64' ((j:Int) + 1) (by omega) (by omega)
  rcases mt_cases x y with ⟨_,ha | ⟨ha,a1,a2,a3⟩⟩ | ⟨h,_⟩
  · simp [b46,lp,lps,c36,-indexAddrA,ix,iy,w,w2,hi,hj,ha]
  · simp [b46,lp,lps,c36,-indexAddrA,ix,iy,w,w2,hi,hj,ha,a1,a2,a3,fitZ]
  · rw [m] at h; cases h
theorem hitR (q k1:Nat) (f c) (l:List Fld) (e y:El) (i j:Nat) (o:List Int) (key:Key) (hk:Ky key) (x:Fld) (hx:l[i]? = some x) (hy:e.s[j]? = some y) (ll:l.length ≤ 1000) (lo:o.length ≤ 1000) (ls:e.s.length ≤ 9223372036854775807) (m:F7.mt x y=true) :
    ∃ key',Ky key' ∧ rnd fn36 b46 q k1 (SR f c l e i j o key)=some (.normal,SR f c l e (i + 1) (j + 1) (o ++ [(j:Int)]) key'):=by
  have hi:i < l.length:=(List.getElem?_eq_some_iff.1 hx).1
  have hj:j < e.s.length:=(List.getElem?_eq_some_iff.1 hy).1
  have ix:=fd_at f c l i x hx
  have iy:=fun hp => El.at_ e.fs e.cs e.s j y hy hp
  have w:=w64' ((i:Int) + 1) (by omega) (by omega)
  have w2:=w64' ((j:Int) + 1) (by omega) (by omega)
  have cs5:(o.length + 1) * 8 ≤ 70368744177664:=by omega
  have k0:=ns_keys o
  have p0:=ns_pure o
  have s0:=ns_scal o
  have l0:=ns_len o
  have k2:=ns_keys (o ++ [(j:Int)])
  have e1:ns (o ++ [(j:Int)])=ns o ++ [.int .i64 (j:Int)]:=ns_app _ _
  rw [e1] at k2
  refine ⟨(1,55,if key.2.1=55 then key.2.2 + 1 else 0),⟨_,.inl rfl⟩,?_⟩
  rcases mt_cases x y with ⟨_,ha | ⟨ha,a1,a2,a3⟩⟩ | ⟨h,_⟩
  · obtain ⟨g,rfl | rfl⟩:=hk <;> simp [b46,lp,lps,c36,-indexAddrA,ix,iy,w,w2,hi,hj,ha,cs5,k0,p0,s0,l0,k2,e1]
  · obtain ⟨g,rfl | rfl⟩:=hk <;> simp [b46,lp,lps,c36,-indexAddrA,ix,iy,w,w2,hi,hj,ha,a1,a2,a3,fitZ,cs5,k0,p0,s0,l0,k2,e1]
  · rw [m] at h; cases h
theorem opt0 (q k1:Nat) (f c) (l:List Fld) (e:El) (i j:Nat) (x:Fld) (hx:l[i]? = some x) (ll:l.length ≤ 1000) (ls:e.s.length ≤ 9223372036854775807) (M:∀ y,e.s[j]? = some y → F7.mt x y=false) (ho:x.opt=true) :
    rnd fn36 b46 q k1 (S0 f c l e i j)=some (.normal,SR f c l e (i + 1) j [-1] (1,65,0)):=by
  have hi:i < l.length:=(List.getElem?_eq_some_iff.1 hx).1
  have ix:=fd_at f c l i x hx
  have w:=w64' ((i:Int) + 1) (by omega) (by omega)
  cases hy:e.s[j]? with
  | none =>
    have hj:=List.getElem?_eq_none_iff.1 hy
    have hj':¬ j < e.s.length:=by omega
    simp [b46,lp,lps,c36,-indexAddrA,ix,w,hi,hj',ho]
  | some y =>
    have hj:j < e.s.length:=(List.getElem?_eq_some_iff.1 hy).1
    have iy:=fun hp => El.at_ e.fs e.cs e.s j y hy hp
    rcases mt_cases x y with ⟨h,_⟩ | ⟨_,ha,a1 | ⟨a1,a2⟩ | ⟨a1,a2,a3⟩⟩
    · rw [M y hy] at h; cases h
    · simp [b46,lp,lps,c36,-indexAddrA,ix,iy,w,hi,hj,ho,ha,a1,fitZ]
    · simp [b46,lp,lps,c36,-indexAddrA,ix,iy,w,hi,hj,ho,ha,a1,a2,fitZ]
    · simp [b46,lp,lps,c36,-indexAddrA,ix,iy,w,hi,hj,ho,ha,a1,a2,a3,fitZ]
theorem optR (q k1:Nat) (f c) (l:List Fld) (e:El) (i j:Nat) (o:List Int) (key:Key) (hk:Ky key) (x:Fld) (hx:l[i]? = some x) (ll:l.length ≤ 1000) (lo:o.length ≤ 1000) (ls:e.s.length ≤ 9223372036854775807) (M:∀ y,e.s[j]? = some y → F7.mt x y=false) (ho:x.opt=true) :
    ∃ key',Ky key' ∧ rnd fn36 b46 q k1 (SR f c l e i j o key)=some (.normal,SR f c l e (i + 1) j (o ++ [-1]) key'):=by
  have hi:i < l.length:=(List.getElem?_eq_some_iff.1 hx).1
  have ix:=fd_at f c l i x hx
  have w:=w64' ((i:Int) + 1) (by omega) (by omega)
  have cs5:(o.length + 1) * 8 ≤ 70368744177664:=by omega
  have k0:=ns_keys o
  have p0:=ns_pure o
  have s0:=ns_scal o
  have l0:=ns_len o
  have k2:=ns_keys (o ++ [-1])
  have e1:ns (o ++ [-1])=ns o ++ [.int .i64 (-1)]:=ns_app _ _
  rw [e1] at k2
  refine ⟨(1,65,if key.2.1=65 then key.2.2 + 1 else 0),⟨_,.inr rfl⟩,?_⟩
  cases hy:e.s[j]? with
  | none =>
    have hj:=List.getElem?_eq_none_iff.1 hy
    have hj':¬ j < e.s.length:=by omega
    obtain ⟨g,rfl | rfl⟩:=hk <;> simp [b46,lp,lps,c36,-indexAddrA,ix,w,hi,hj',ho,cs5,k0,p0,s0,l0,k2,e1]
  | some y =>
    have hj:j < e.s.length:=(List.getElem?_eq_some_iff.1 hy).1
    have iy:=fun hp => El.at_ e.fs e.cs e.s j y hy hp
    rcases mt_cases x y with ⟨h,_⟩ | ⟨_,ha,a1 | ⟨a1,a2⟩ | ⟨a1,a2,a3⟩⟩
    · rw [M y hy] at h; cases h
    · obtain ⟨g,rfl | rfl⟩:=hk <;> simp [b46,lp,lps,c36,-indexAddrA,ix,iy,w,hi,hj,ho,ha,a1,fitZ,cs5,k0,p0,s0,l0,k2,e1]
    · obtain ⟨g,rfl | rfl⟩:=hk <;> simp [b46,lp,lps,c36,-indexAddrA,ix,iy,w,hi,hj,ho,ha,a1,a2,fitZ,cs5,k0,p0,s0,l0,k2,e1]
    · obtain ⟨g,rfl | rfl⟩:=hk <;> simp [b46,lp,lps,c36,-indexAddrA,ix,iy,w,hi,hj,ho,ha,a1,a2,a3,fitZ,cs5,k0,p0,s0,l0,k2,e1]
end F9
end
section
open Ab Go TabE Sp E34 F1 Rw F5 F6 F7 F8 F9
namespace F10
abbrev RC (q:Nat) (e x:Int) (v:AV):Prop:=∀ h,aCall E q 0 35 [.int .i64 e,.int .i64 x] h=some (.ret v,h)
theorem short0 (q k1:Nat) (f c) (l:List Fld) (e:El) (i:Nat) (x:Fld) (hx:l[i]? = some x) (ho:x.opt=false) (F:RC q 7 (-1) (fR [] 7)) :
    rnd fn36 b46 q k1 (F9.S0 f c l e i e.s.length)=F9.Bad [] 7:=by
  have hi:i < l.length:=(List.getElem?_eq_some_iff.1 hx).1
  have ix:=fd_at f c l i x hx
  unfold RC at F
  try simp [fR] at F
  simp [b46,lp,lps,c36,-indexAddrA,ix,hi,ho,F]
theorem shortR (q k1:Nat) (f c) (l:List Fld) (e:El) (i:Nat) (o:List Int) (key:Key) (hk:Ky key) (x:Fld) (hx:l[i]? = some x) (ho:x.opt=false) (F:RC q 7 (-1) (fR [] 7)) :
    rnd fn36 b46 q k1 (F9.SR f c l e i e.s.length o key)=F9.Bad [] 7:=by
  have hi:i < l.length:=(List.getElem?_eq_some_iff.1 hx).1
  have ix:=fd_at f c l i x hx
  have k0:=ns_keys o
  unfold RC at F
  try simp [fR] at F
  obtain ⟨g,rfl | rfl⟩:=hk <;> simp [b46,lp,lps,c36,-indexAddrA,ix,hi,ho,F,k0]
theorem wrong0 (q k1:Nat) (f c) (l:List Fld) (e y:El) (i j:Nat) (x:Fld) (hx:l[i]? = some x) (hy:e.s[j]? = some y) (ls:e.s.length ≤ 9223372036854775807) (m:F7.mt x y=false) (ho:x.opt=false) (F:RC q 9 j (fR [(j:Int)] 9)) :
    rnd fn36 b46 q k1 (F9.S0 f c l e i j)=F9.Bad [(j:Int)] 9:=by
  have hi:i < l.length:=(List.getElem?_eq_some_iff.1 hx).1
  have hj:j < e.s.length:=(List.getElem?_eq_some_iff.1 hy).1
  have hj2:¬ j=e.s.length:=by omega
  have hj3:¬ (j:Int)=e.s.length:=by omega
  have ix:=fd_at f c l i x hx
  have iy:=fun hp => El.at_ e.fs e.cs e.s j y hy hp
  unfold RC at F
  try simp [fR] at F
  rcases mt_cases x y with ⟨h,_⟩ | ⟨_,ha,a1 | ⟨a1,a2⟩ | ⟨a1,a2,a3⟩⟩
  · rw [m] at h; cases h
  · simp [b46,lp,lps,c36,-indexAddrA,ix,iy,hi,hj,hj2,hj3,ho,ha,a1,fitZ,F]
  · simp [b46,lp,lps,c36,-indexAddrA,ix,iy,hi,hj,hj2,hj3,ho,ha,a1,a2,fitZ,F]
  · simp [b46,lp,lps,c36,-indexAddrA,ix,iy,hi,hj,hj2,hj3,ho,ha,a1,a2,a3,fitZ,F]
theorem wrongR (q k1:Nat) (f c) (l:List Fld) (e y:El) (i j:Nat) (o:List Int) (key:Key) (hk:Ky key) (x:Fld) (hx:l[i]? = some x) (hy:e.s[j]? = some y) (ls:e.s.length ≤ 9223372036854775807) (m:F7.mt x y=false) (ho:x.opt=false) (F:RC q 9 j (fR [(j:Int)] 9)) :
    rnd fn36 b46 q k1 (F9.SR f c l e i j o key)=F9.Bad [(j:Int)] 9:=by
  have hi:i < l.length:=(List.getElem?_eq_some_iff.1 hx).1
  have hj:j < e.s.length:=(List.getElem?_eq_some_iff.1 hy).1
  have hj2:¬ j=e.s.length:=by omega
  have hj3:¬ (j:Int)=e.s.length:=by omega
  have ix:=fd_at f c l i x hx
  have iy:=fun hp => El.at_ e.fs e.cs e.s j y hy hp
  have k0:=ns_keys o
  unfold RC at F
  try simp [fR] at F
  rcases mt_cases x y with ⟨h,_⟩ | ⟨_,ha,a1 | ⟨a1,a2⟩ | ⟨a1,a2,a3⟩⟩
  · rw [m] at h; cases h
  · obtain ⟨g,rfl | rfl⟩:=hk <;> simp [b46,lp,lps,c36,-indexAddrA,ix,iy,hi,hj,hj2,hj3,ho,ha,a1,fitZ,F,k0]
  · obtain ⟨g,rfl | rfl⟩:=hk <;> simp [b46,lp,lps,c36,-indexAddrA,ix,iy,hi,hj,hj2,hj3,ho,ha,a1,a2,fitZ,F,k0]
  · obtain ⟨g,rfl | rfl⟩:=hk <;> simp [b46,lp,lps,c36,-indexAddrA,ix,iy,hi,hj,hj2,hj3,ho,ha,a1,a2,a3,fitZ,F,k0]
theorem last0 (q k1:Nat) (f c) (l:List Fld) (e:El) (j:Nat):rnd fn36 b46 q k1 (F9.S0 f c l e l.length j)=some (.exit 0,⟨(F9.S0 f c l e l.length j).t ++ [(23,.bool false)],(F9.S0 f c l e l.length j).h⟩):=by
  simp [b46,lp,lps,c36]
theorem lastR (q k1:Nat) (f c) (l:List Fld) (e:El) (j:Nat) (o:List Int) (key:Key) (hk:Ky key):rnd fn36 b46 q k1 (F9.SR f c l e l.length j o key)=some (.exit 0,⟨(F9.SR f c l e l.length j o key).t ++ [(23,.bool false)],(F9.SR f c l e l.length j o key).h⟩):=by
  have k0:=ns_keys o
  obtain ⟨g,rfl | rfl⟩:=hk <;> simp [b46,lp,lps,c36,k0]
def Sx (f:Bool) (c:Option Nat) (l:List Fld) (e:El) (i j:Nat) (o:List Int) (key:Key):St:=if o=[] then F9.S0 f c l e i j else F9.SR f c l e i j o key
abbrev Lp (K:Nat):=aLoop (aCode E (aCall E K) (dcall (aRun E K)) K 1 fn36 b46) (cleanS 1 ((firstReg b46).bind fn36.head))
theorem loop (K:Nat) (hK:30 ≤ K) (f c) (l:List Fld) (e:El) (ll:l.length ≤ 256) (ls:e.s.length ≤ 9223372036854775807):∀ (r:List Fld) (i j:Nat) (o:List Int) (key:Key) (k:Nat),l.drop i=r → i + r.length=l.length → j ≤ e.s.length → o.length + r.length=l.length → Ky key → r.length < k →
    (match sqr e.s r j o with
      | .inl (o',j') => ∃ key',Ky key' ∧ F10.Lp K k (Sx f c l e i j o key)=some (.exit 0,⟨(Sx f c l e l.length j' o' key').t ++ [(23,.bool false)],(Sx f c l e l.length j' o' key').h⟩)
      | .inr (er,p) => F10.Lp K k (Sx f c l e i j o key)=F9.Bad p er)
  | [],i,j,o,key,k,h1,h2,h3,h4,hk,h5 => by
    obtain ⟨k,rfl⟩:∃ q,k=q + 1:=⟨k - 1,by omega⟩
    simp at h2
    subst h2
    refine ⟨key,hk,?_⟩
    unfold Sx
    by_cases o0:o=[]
    · rw [if_pos o0]; exact aLoop_end (last0 K K f c l e j) (by simp)
    · rw [if_neg o0]; exact aLoop_end (lastR K K f c l e j o key hk) (by simp)
  | x :: r,i,j,o,key,k,h1,h2,h3,h4,hk,h5 => by
    obtain ⟨k,rfl⟩:∃ q,k=q + 1:=⟨k - 1,by omega⟩
    simp only [List.length_cons] at h2 h4 h5
    have hx:l[i]? = some x:=by
      have:=congrArg (fun l => l[0]?) h1
      simpa [List.getElem?_drop] using this
    have hd:l.drop (i + 1)=r:=by
      have:=congrArg List.tail h1
      simpa [List.tail_drop] using this
    unfold sqr
    have nx:∀ (v:Int) (j':Nat),j' ≤ e.s.length → (o=[] → ∃ key',Ky key' ∧ rnd fn36 b46 K K (F9.S0 f c l e i j)=some (.normal,F9.SR f c l e (i + 1) j' [v] key')) → (o ≠ [] → ∃ key',Ky key' ∧ rnd fn36 b46 K K (F9.SR f c l e i j o key)=some (.normal,F9.SR f c l e (i + 1) j' (o ++ [v]) key')) →
        (match sqr e.s r j' (o ++ [v]) with
          | .inl (o',j') => ∃ key',Ky key' ∧ F10.Lp K (k + 1) (Sx f c l e i j o key)=some (.exit 0,⟨(Sx f c l e l.length j' o' key').t ++ [(23,.bool false)],(Sx f c l e l.length j' o' key').h⟩)
          | .inr (er,p) => F10.Lp K (k + 1) (Sx f c l e i j o key)=F9.Bad p er):=by
      intro v j' hj' c1 c2
      have st:∃ key',Ky key' ∧ F10.Lp K (k + 1) (Sx f c l e i j o key)=F10.Lp K k (Sx f c l e (i + 1) j' (o ++ [v]) key'):=by
        have ne:¬ (o ++ [v]=[]):=by simp
        by_cases o0:o=[]
        · obtain ⟨key',q1,q2⟩:=c1 o0
          refine ⟨key',q1,?_⟩
          unfold Sx
          rw [if_pos o0,if_neg ne,o0]
          exact aLoop_succ q2
        · obtain ⟨key',q1,q2⟩:=c2 o0
          refine ⟨key',q1,?_⟩
          unfold Sx
          rw [if_neg o0,if_neg ne]
          exact aLoop_succ q2
      obtain ⟨key',q1,q2⟩:=st
      have I:=loop K hK f c l e ll ls r (i + 1) j' (o ++ [v]) key' k hd (by omega) hj' (by rw [List.length_append]; simp; omega) q1 (by omega)
      rw [q2]
      exact I
    have lo:o.length ≤ 1000:=by omega
    cases hy:e.s[j]? with
    | none =>
      have hj:=List.getElem?_eq_none_iff.1 hy
      obtain rfl:j=e.s.length:=by omega
      simp only
      by_cases ho:x.opt=true
      · rw [if_pos ho]
        exact nx (-1) e.s.length (by omega) (fun _ => ⟨_,⟨0,.inr rfl⟩,opt0 K K f c l e i e.s.length x hx (by omega) ls (fun y h => by rw [hy] at h; cases h) ho⟩) (fun _ => optR K K f c l e i e.s.length o key hk x hx (by omega) lo ls (fun y h => by rw [hy] at h; cases h) ho)
      · rw [if_neg ho]
        have ho':x.opt=false:=by simpa using ho
        have F:RC K 7 (-1) (fR [] 7):=fun h => rnil 7 (-1) (by omega) K (by omega) 0 h
        show F10.Lp K (k + 1) (Sx f c l e i e.s.length o key)=F9.Bad [] 7
        unfold Sx
        by_cases o0:o=[]
        · rw [if_pos o0]; exact aLoop_end (short0 K K f c l e i x hx ho' F) (by simp)
        · rw [if_neg o0]; exact aLoop_end (shortR K K f c l e i o key hk x hx ho' F) (by simp)
    | some y =>
      have hj:j < e.s.length:=(List.getElem?_eq_some_iff.1 hy).1
      simp only
      by_cases m:F7.mt x y=true
      · rw [if_pos m]
        exact nx j (j + 1) (by omega) (fun _ => ⟨_,⟨0,.inl rfl⟩,hit0 K K f c l e y i j x hx hy (by omega) ls m⟩) (fun _ => hitR K K f c l e y i j o key hk x hx hy (by omega) lo ls m)
      rw [if_neg m]
      have m':F7.mt x y=false:=by simpa using m
      by_cases ho:x.opt=true
      · rw [if_pos ho]
        exact nx (-1) j (by omega) (fun _ => ⟨_,⟨0,.inr rfl⟩,opt0 K K f c l e i j x hx (by omega) ls (fun y' h => by rw [hy] at h; cases h; exact m') ho⟩) (fun _ => optR K K f c l e i j o key hk x hx (by omega) lo ls (fun y' h => by rw [hy] at h; cases h; exact m') ho)
      · rw [if_neg ho]
        have ho':x.opt=false:=by simpa using ho
        have F:RC K 9 j (fR [(j:Int)] 9):=fun h => rone 9 j (by omega) K (by omega) 0 h
        show F10.Lp K (k + 1) (Sx f c l e i j o key)=F9.Bad [(j:Int)] 9
        unfold Sx
        by_cases o0:o=[]
        · rw [if_pos o0]; exact aLoop_end (wrong0 K K f c l e y i j x hx hy ls m' ho' F) (by simp)
        · rw [if_neg o0]; exact aLoop_end (wrongR K K f c l e y i j o key hk x hx hy ls m' ho' F) (by simp)
def qR:List Int ⊕ (Int × List Int) → AV
  | .inl o => .tup [.sl o.isEmpty (ns o) (if o.isEmpty then some 0 else none),fR [] 0]
  | .inr (e,p) => .tup [.sl true [] (some 0),fR p e]
theorem rsequence (f c) (l:List Fld) (e:El) (t:Int × Bool × Int) (ls:e.s.length ≤ 9223372036854775807) (l2:l.length ≤ 9223372036854775807):Con E (l.length + 60) 36 [e.av,.agg [.int .u8 t.1,.bool t.2.1,.int .u32 t.2.2],.sl f (l.map Fld.av) c] (qR (sq e t l)):=by
  obtain ⟨K,hK⟩:∃ K,l.length + 59=K:=⟨_,rfl⟩
  have eK:l.length + 60=K + 1:=by omega
  rw [eK]
  have f3:=rnil 3 (-1) (by omega) K (by omega) 0
  have f9:=rnil 9 (-1) (by omega) K (by omega) 0
  try simp [fR] at f3
  try simp [fR] at f9
  refine con_of E_fn36 (by simp [AV.pureL,AV.pure,El.av_pure]) (Nat.le_of_ble_eq_true rfl) rfl rfl (g:=[]) ?_
  rw [body_36,c36]
  unfold sq
  by_cases big:256 < l.length
  · have big':(256:Int) < l.length:=by omega
    rw [if_pos big]
    simp [El.av_eq,big,big',f3,qR]
  rw [if_neg big]
  have big':¬ (256:Int) < l.length:=by omega
  by_cases a:e.c=t.1
  case neg => simp [El.av_eq,big,big',a,f9,qR,fitZ]
  by_cases b:e.k=t.2.1
  case neg => simp [El.av_eq,big,big',a,b,f9,qR,fitZ]
  by_cases d:e.n=t.2.2
  case neg => simp [El.av_eq,big,big',a,b,d,f9,qR,fitZ]
  rw [if_neg (fun h => h ⟨a,b,d⟩)]
  have L:=F10.loop K (by omega) f c l e (by omega) ls l 0 0 [] (1,55,0) K rfl (by omega) (by omega) (by simp) ⟨0,.inl rfl⟩ (by omega)
  rw [Sx,if_pos rfl] at L
  cases hr:sqr e.s l 0 [] with
  | inr p =>
    obtain ⟨er,p⟩:=p
    rw [hr] at L
    simp only [qR,fR]
    simp [F10.Lp,b46,lp,lps,c36,firstReg,F9.S0,bx,ec,a,b,d] at L
    simp [El.av_eq,-s_round,big,big',a,b,d,fitZ,L]
  | inl p =>
    obtain ⟨o,j⟩:=p
    have ln:=sqr_len e.s l 0 [] o j (by omega) hr
    simp at ln
    rw [hr] at L
    simp only at L
    obtain ⟨key,hk,L⟩:=L
    unfold Sx at L
    have kj:=ns_keys o
    have pj:=ns_pure o
    have lj:=ns_len o
    simp only
    by_cases o0:o=[]
    · subst o0
      rw [if_pos rfl] at L
      simp [F10.Lp,b46,lp,lps,c36,firstReg,F9.S0,bx,ec,a,b,d] at L
      by_cases hj:j < e.s.length
      · have hj':(j:Int) < e.s.length:=by omega
        have f8:=rone 8 j (by omega) K (by omega) 0
        try simp [fR] at f8
        rw [if_pos hj,qR]
        simp [El.av_eq,-s_round,big,big',a,b,d,fitZ,L,hj,hj',f8]
      · have hj':¬ (j:Int) < e.s.length:=by omega
        rw [if_neg hj,qR]
        simp [El.av_eq,-s_round,big,big',a,b,d,fitZ,L,hj,hj']
    · have e0:o.isEmpty=false:=by cases o with | nil => exact absurd rfl o0 | cons x r => rfl
      rw [if_neg o0] at L
      simp [F10.Lp,b46,lp,lps,c36,firstReg,F9.S0,F9.SR,bx,ec,a,b,d] at L
      by_cases hj:j < e.s.length
      · have hj':(j:Int) < e.s.length:=by omega
        have f8:=rone 8 j (by omega) K (by omega) 0
        try simp [fR] at f8
        rw [if_pos hj,qR]
        obtain ⟨g,rfl | rfl⟩:=hk <;> simp [El.av_eq,-s_round,big,big',a,b,d,fitZ,L,hj,hj',f8,kj]
      · have hj':¬ (j:Int) < e.s.length:=by omega
        rw [if_neg hj,qR]
        obtain ⟨g,rfl | rfl⟩:=hk <;> simp [El.av_eq,-s_round,big,big',a,b,d,fitZ,L,hj,hj',kj,pj,lj,e0,o0]
end F10
end
end
section
open Ab Go TabE Sp E34 F1 F2 F4 F5 F6 F7 F8
namespace F11
def ck (s:List El):List Fld → List Int → Nat → Option Nat
  | [],[],j => some j
  | x :: r,v :: o,j => if v = -1 ∧ x.opt=true then ck s r o j else match s[j]? with
    | some y => if v=j ∧ F7.mt x y=true then ck s r o (j + 1) else none
    | none => none
  | _,_,_ => none
theorem sqr_ck (s:List El):∀ (r:List Fld) (j:Nat) (o o':List Int) (j':Nat),sqr s r j o=.inl (o',j') → ∃ t,o'=o ++ t ∧ ck s r t j=some j'
  | [],j,o,o',j',h => by unfold sqr at h; cases h; exact ⟨[],by simp,rfl⟩
  | x :: r,j,o,o',j',h => by
    unfold sqr at h
    cases hy:s[j]? with
    | none =>
      rw [hy] at h
      simp only at h
      split at h
      · rename_i ho
        obtain ⟨t,e,k⟩:=sqr_ck s r j _ o' j' h
        exact ⟨-1 :: t,by rw [e]; simp,by unfold ck; rw [if_pos ⟨rfl,ho⟩]; exact k⟩
      · cases h
    | some y =>
      rw [hy] at h
      simp only at h
      split at h
      · rename_i m
        obtain ⟨t,e,k⟩:=sqr_ck s r (j + 1) _ o' j' h
        exact ⟨(j:Int) :: t,by rw [e]; simp,by unfold ck; rw [if_neg (by omega),hy]; simp only; rw [if_pos ⟨trivial,m⟩]; exact k⟩
      · split at h
        · rename_i ho
          obtain ⟨t,e,k⟩:=sqr_ck s r j _ o' j' h
          exact ⟨-1 :: t,by rw [e]; simp,by unfold ck; rw [if_pos ⟨rfl,ho⟩]; exact k⟩
        · cases h
theorem sqr_bad (s:List El):∀ (r:List Fld) (j:Nat) (o:List Int) (e:Int) (p:List Int),sqr s r j o=.inr (e,p) → e ≠ 0 ∧ p.length < 2
  | [],j,o,e,p,h => by unfold sqr at h; cases h
  | x :: r,j,o,e,p,h => by
    unfold sqr at h
    cases hy:s[j]? with
    | none =>
      rw [hy] at h
      simp only at h
      split at h
      · exact sqr_bad s r j _ e p h
      · cases h; simp
    | some y =>
      rw [hy] at h
      simp only at h
      split at h
      · exact sqr_bad s r (j + 1) _ e p h
      · split at h
        · exact sqr_bad s r j _ e p h
        · cases h; simp
theorem sq_bad {e:El} {t:Int × Bool × Int} {l:List Fld} {er:Int} {p:List Int} (h:sq e t l=.inr (er,p)):er ≠ 0 ∧ p.length < 2:=by
  unfold sq at h
  split at h
  · cases h; simp
  split at h
  · cases h; simp
  split at h
  · rename_i q hq; cases h; exact sqr_bad _ _ _ _ _ _ hq
  · split at h
    · cases h; simp
    · cases h
theorem sq_ok {e:El} {t:Int × Bool × Int} {l:List Fld} {o:List Int} (h:sq e t l=.inl o):o.length=l.length ∧ ck e.s l o 0=some e.s.length ∧ l.length ≤ 256 ∧ e.c=t.1 ∧ e.k=t.2.1 ∧ e.n=t.2.2:=by
  unfold sq at h
  split at h
  · cases h
  rename_i big
  split at h
  · cases h
  rename_i tg
  split at h
  · cases h
  · rename_i o' j hq
    split at h
    · cases h
    · rename_i hj
      cases h
      have ln:=sqr_len e.s l 0 [] o j (by omega) hq
      obtain ⟨t,e1,k⟩:=sqr_ck e.s l 0 [] o j hq
      simp at e1 ln
      subst e1
      have tg':=Classical.not_not.1 tg
      exact ⟨ln.1,by rw [k]; congr 1; omega,by omega,tg'⟩
end F11
end
section
open Ab Go
namespace OH
def step (ds:List Int) (v:Int) (s:Bool) (b:Int):Int ⊕ (List Int × Int × Bool) :=
  if s=true ∧ ds.length=15 then .inl 3
  else if s=true ∧ b=128 then .inl 11
  else if 4294967295 < 128 * v + b % 128 then .inl 3
  else if b < 128 then .inr (ds ++ [128 * v + b % 128],0,true)
  else .inr (ds,128 * v + b % 128,false)
def run:List Int → List Int → Int → Bool → Int ⊕ (List Int × Int × Bool)
  | [],ds,v,s => .inr (ds,v,s)
  | b :: r,ds,v,s => match step ds v s b with
    | .inl e => .inl e
    | .inr (ds',v',s') => run r ds' v' s'
def arcs:List Int → List Int
  | [] => List.replicate 16 0
  | d :: r => min (d / 40) 2 :: (d - 40 * min (d / 40) 2) :: (r ++ List.replicate (14 - r.length) 0)
def get (bs:List Int):Int × List Int × Int :=
  if bs=[] then (0,List.replicate 16 0,7) else
  match run bs [] 0 true with
  | .inl e => (0,List.replicate 16 0,e)
  | .inr (ds,_,s) => if s=true then ((ds.length:Int) + 1,arcs ds,0) else (0,List.replicate 16 0,7)
def val:List Int → Int → Int
  | [],v => v
  | b :: r,v => val r (128 * v + b % 128)
theorem grp_of (p:List Int) (b:Int) (hp:∀ x ∈ p,128 ≤ x ∧ x < 256) (h0:∀ x,p.head? = some x → x ≠ 128) (b0:0 ≤ b) (b1:b < 128) (hv:val (p ++ [b]) 0 ≤ 4294967295):OG.grp (val (p ++ [b]) 0)=p ++ [b]:=by
  match p with
  | [] =>
    simp only [List.nil_append,val] at hv ⊢
    unfold OG.grp OG.top OG.oct
    simp
    rw [if_pos (by omega)]
    simp
    omega
  | [x] =>
    have q1:=hp x (by simp); have z:=h0 x rfl
    simp only [List.cons_append,List.nil_append,val] at hv ⊢
    unfold OG.grp OG.top OG.oct
    rw [if_neg (by omega),if_pos (by omega)]
    simp
    omega
  | [x,y] =>
    have q1:=hp x (by simp); have q2:=hp y (by simp); have z:=h0 x rfl
    simp only [List.cons_append,List.nil_append,val] at hv ⊢
    unfold OG.grp OG.top OG.oct
    rw [if_neg (by omega),if_neg (by omega),if_pos (by omega)]
    simp
    omega
  | [x,y,u] =>
    have q1:=hp x (by simp); have q2:=hp y (by simp); have q3:=hp u (by simp); have z:=h0 x rfl
    simp only [List.cons_append,List.nil_append,val] at hv ⊢
    unfold OG.grp OG.top OG.oct
    rw [if_neg (by omega),if_neg (by omega),if_neg (by omega),if_pos (by omega)]
    simp
    omega
  | [x,y,u,t] =>
    have q1:=hp x (by simp); have q2:=hp y (by simp); have q3:=hp u (by simp); have q4:=hp t (by simp); have z:=h0 x rfl
    simp only [List.cons_append,List.nil_append,val] at hv ⊢
    unfold OG.grp OG.top OG.oct
    rw [if_neg (by omega),if_neg (by omega),if_neg (by omega),if_neg (by omega)]
    simp
    omega
  | x :: y :: u :: t :: s :: r =>
    exfalso
    have q1:=hp x (by simp); have z:=h0 x rfl
    have mono:∀ (l:List Int) (v:Int),0 ≤ v → v ≤ val l v:=by
      intro l
      induction l with
      | nil => intro v _; exact Int.le_refl _
      | cons a l ih => intro v hv0; unfold val; have:=ih (128 * v + a % 128) (by omega); omega
    simp only [List.cons_append,val] at hv
    have q2:=hp y (by simp); have q3:=hp u (by simp); have q4:=hp t (by simp); have q5:=hp s (by simp)
    cases r with
    | nil =>
      simp only [List.nil_append,val] at hv
      omega
    | cons a r =>
      have:=mono (a :: r ++ [b]) (128 * (128 * (128 * (128 * (128 * 0 + x % 128) + y % 128) + u % 128) + t % 128) + s % 128) (by omega)
      simp only [List.cons_append] at this
      unfold val at this
      have m2:=mono (r ++ [b]) (128 * (128 * (128 * (128 * (128 * (128 * 0 + x % 128) + y % 128) + u % 128) + t % 128) + s % 128) + a % 128) (by omega)
      simp only [List.cons_append,val] at hv
      omega
theorem val_snoc:∀ (p:List Int) (b v:Int),val (p ++ [b]) v=128 * val p v + b % 128
  | [],b,v => rfl
  | a :: p,b,v => by rw [List.cons_append]; unfold val; rw [val_snoc p b]
theorem val_nn:∀ (p:List Int) (v:Int),0 ≤ v → 0 ≤ val p v
  | [],v,h => h
  | a :: p,v,h => by unfold val; exact val_nn p _ (by omega)
theorem run_ok:∀ (bs ds:List Int) (v:Int) (s:Bool) (p:List Int) (ds':List Int) (v':Int) (s':Bool),(∀ b ∈ bs,0 ≤ b ∧ b < 256) → (∀ d ∈ ds,0 ≤ d ∧ d ≤ 4294967295) → ds.length ≤ 15 → (p ≠ [] → ds.length < 15) →
    (∀ x ∈ p,128 ≤ x ∧ x < 256) → (∀ x,p.head? = some x → x ≠ 128) → v=val p 0 → (s=true ↔ p=[]) → run bs ds v s=.inr (ds',v',s') →
    ∃ p',ds.flatMap OG.grp ++ p ++ bs=ds'.flatMap OG.grp ++ p' ∧ (s'=true ↔ p'=[]) ∧ (∀ d ∈ ds',0 ≤ d ∧ d ≤ 4294967295) ∧ ds'.length ≤ 15
  | [],ds,v,s,p,ds',v',s',_,hd,hl,_,_,_,_,hs,h => by
    simp only [run] at h
    cases h
    exact ⟨p,by simp,hs,hd,hl⟩
  | b :: r,ds,v,s,p,ds',v',s',hb,hd,hl,hpl,hp,h0,hv,hs,h => by
    unfold run step at h
    have b0:=hb b (by simp)
    split at h
    case h_1 => cases h
    rename_i e1 ds1 v1 s1 e2
    split at e2
    · cases e2
    split at e2
    · cases e2
    split at e2
    · cases e2
    rename_i n1 n2 n3
    have hlt:ds.length < 15:=by
      by_cases e:p=[]
      · have:=hs.2 e
        have:¬ ds.length=15:=fun q => n1 ⟨this,q⟩
        omega
      · exact hpl e
    have hvs:val (p ++ [b]) 0=128 * v + b % 128:=by rw [val_snoc,hv]
    have hh:∀ x,(p ++ [b]).head? = some x → x ≠ 128:=by
      intro x hx
      cases p with
      | nil =>
        simp at hx
        subst hx
        exact fun q => n2 ⟨hs.2 rfl,q⟩
      | cons a p => exact h0 x (by simpa using hx)
    split at e2
    · rename_i hlow
      cases e2
      have hg:=grp_of p b hp h0 b0.1 hlow (by rw [hvs]; omega)
      rw [hvs] at hg
      have hnn:0 ≤ 128 * v + b % 128:=by rw [← hvs]; exact val_nn _ _ (Int.le_refl _)
      obtain ⟨p',q1,q2⟩:=run_ok r _ 0 true [] ds' v' s' (fun x hx => hb x (by simp [hx])) (fun d hd' => by
        rcases List.mem_append.1 hd' with hd' | hd'
        · exact hd d hd'
        · simp at hd'; subst hd'; omega) (by simp; omega) (fun e => absurd rfl e) (by simp) (by simp) rfl (by simp) h
      refine ⟨p',?_,q2⟩
      rw [← q1,List.flatMap_append,List.flatMap_cons,List.flatMap_nil,hg]
      simp
    · rename_i hhigh
      cases e2
      obtain ⟨p',q1,q2⟩:=run_ok r ds _ false (p ++ [b]) ds' v' s' (fun x hx => hb x (by simp [hx])) hd hl (fun _ => hlt) (fun x hx => by
        rcases List.mem_append.1 hx with hx | hx
        · exact hp x hx
        · simp at hx; subst hx; omega) hh hvs.symm (by simp) h
      exact ⟨p',by rw [← q1]; simp,q2⟩
theorem get_ok (bs:List Int) (hb:∀ b ∈ bs,0 ≤ b ∧ b < 256) (h:(get bs).2.2=0):OP.okB (get bs).1 (get bs).2.1=true ∧ OP.octs (get bs).1 (get bs).2.1=bs ∧ (get bs).2.1.length=16 ∧ (∀ x ∈ (get bs).2.1,0 ≤ x ∧ x < 4294967296) ∧ 2 ≤ (get bs).1 ∧ (get bs).1 ≤ 16:=by
  unfold get at h ⊢
  split
  · rename_i e; rw [if_pos e] at h; cases h
  rename_i hne
  rw [if_neg hne] at h
  have herr:∀ (bs ds:List Int) (v:Int) (s:Bool) (e:Int),run bs ds v s=.inl e → e ≠ 0:=by
    intro bs
    induction bs with
    | nil => intro ds v s e h; cases h
    | cons b r ih =>
      intro ds v s e h
      unfold run at h
      split at h
      · rename_i e1 e2
        cases h
        unfold step at e2
        split at e2
        · cases e2; decide
        split at e2
        · cases e2; decide
        split at e2
        · cases e2; decide
        split at e2 <;> cases e2
      · exact ih _ _ _ _ h
  cases hr:run bs [] 0 true with
  | inl e =>
    rw [hr] at h
    exact absurd h (herr _ _ _ _ _ hr)
  | inr q =>
    obtain ⟨ds,v,s⟩:=q
    rw [hr] at h
    simp only at h ⊢
    cases s with
    | false => cases h
    | true =>
      obtain ⟨p',q1,q2,q3,q4⟩:=run_ok bs [] 0 true [] ds v true hb (by simp) (by simp) (by simp) (by simp) (by simp) rfl (by simp) hr
      have hp':=q2.1 rfl
      subst hp'
      simp at q1
      rw [if_pos rfl]
      cases ds with
      | nil => exact absurd q1 hne
      | cons d r =>
        have d0:=q3 d (by simp)
        simp only [List.length_cons] at q4 ⊢
        have et:((((r.length + 1:Nat):Int) + 1).toNat)=r.length + 2:=by omega
        refine ⟨?_,?_,?_,?_,by omega,by omega⟩
        · unfold OP.okB arcs
          simp only [Bool.and_eq_true,decide_eq_true_eq,et]
          refine ⟨by omega,?_⟩
          rw [List.drop_succ_cons,List.drop_succ_cons,List.drop_left]
          simp
        · unfold OP.octs OP.subs arcs
          simp only [et]
          rw [show r.length + 2 - 2=r.length from rfl,List.take_left,show d - 40 * min (d / 40) 2 + 40 * min (d / 40) 2=d from by omega]
          exact q1.symm
        · unfold arcs
          simp
          omega
        · unfold arcs
          intro x hx
          simp only [List.mem_cons,List.mem_append,List.mem_replicate] at hx
          rcases hx with rfl | rfl | hx | ⟨_,rfl⟩
          · omega
          · omega
          · have:=q3 x (by simp [hx]); omega
          · omega
end OH
end
section
open Ab Go TabE Sp E34 F1 Rw F5 F6 F7 F8
namespace AP
abbrev tS:Int × Bool × Int:=(0,true,16)
abbrev lA:List Fld:=[⟨0,false,6,false,false⟩,⟨0,false,0,true,true⟩]
abbrev lK:List Fld:=[⟨0,true,16,false,false⟩,⟨0,false,3,false,false⟩]
theorem mt_eq (x:Fld) (y:El) (h:x.any=false):F7.mt x y=true ↔ x.c=y.c ∧ x.k=y.k ∧ x.n=y.n:=by
  unfold F7.mt; rw [h]; simp
theorem mt_any (x:Fld) (y:El) (h:x.any=true):F7.mt x y=true:=by unfold F7.mt; rw [h]; rfl
theorem casesA (e:El) (o:List Int) (h:sq e tS lA=.inl o):(e.c=0 ∧ e.k=true ∧ e.n=16) ∧ ((∃ x,e.s=[x] ∧ o=[0,-1] ∧ x.c=0 ∧ x.k=false ∧ x.n=6) ∨ ∃ x y,e.s=[x,y] ∧ o=[0,1] ∧ x.c=0 ∧ x.k=false ∧ x.n=6):=by
  obtain ⟨_,_,_,t1,t2,t3⟩:=F11.sq_ok h
  refine ⟨⟨t1,t2,t3⟩,?_⟩
  unfold sq at h
  rw [if_neg (by simp),if_neg (by simp [t1,t2,t3])] at h
  have A:=fun y => mt_eq ⟨0,false,6,false,false⟩ y rfl
  have B:=fun y => mt_any ⟨0,false,0,true,true⟩ y rfl
  rcases hs:e.s with _ | ⟨x,_ | ⟨y,_ | ⟨z,r⟩⟩⟩
  · rw [hs] at h
    simp [sqr] at h
  · rw [hs] at h
    by_cases a:F7.mt ⟨0,false,6,false,false⟩ x=true
    · simp [sqr,a] at h
      have q:=(A x).1 a
      exact .inl ⟨x,rfl,h.symm,q.1.symm,q.2.1.symm,q.2.2.symm⟩
    · simp [sqr,a] at h
  · rw [hs] at h
    by_cases a:F7.mt ⟨0,false,6,false,false⟩ x=true
    · simp [sqr,a,B] at h
      have q:=(A x).1 a
      exact .inr ⟨x,y,rfl,h.symm,q.1.symm,q.2.1.symm,q.2.2.symm⟩
    · simp [sqr,a] at h
  · rw [hs] at h
    by_cases a:F7.mt ⟨0,false,6,false,false⟩ x=true
    · simp [sqr,a,B] at h
    · simp [sqr,a] at h
theorem casesK (e:El) (o:List Int) (h:sq e tS lK=.inl o):(e.c=0 ∧ e.k=true ∧ e.n=16) ∧ ∃ x y,e.s=[x,y] ∧ o=[0,1] ∧ (x.c=0 ∧ x.k=true ∧ x.n=16) ∧ y.c=0 ∧ y.k=false ∧ y.n=3:=by
  obtain ⟨_,_,_,t1,t2,t3⟩:=F11.sq_ok h
  refine ⟨⟨t1,t2,t3⟩,?_⟩
  unfold sq at h
  rw [if_neg (by simp),if_neg (by simp [t1,t2,t3])] at h
  have A:=fun y => mt_eq ⟨0,true,16,false,false⟩ y rfl
  have B:=fun y => mt_eq ⟨0,false,3,false,false⟩ y rfl
  rcases hs:e.s with _ | ⟨x,_ | ⟨y,_ | ⟨z,r⟩⟩⟩
  · rw [hs] at h
    simp [sqr] at h
  · rw [hs] at h
    by_cases a:F7.mt ⟨0,true,16,false,false⟩ x=true
    · simp [sqr,a] at h
    · simp [sqr,a] at h
  · rw [hs] at h
    by_cases a:F7.mt ⟨0,true,16,false,false⟩ x=true
    · by_cases b:F7.mt ⟨0,false,3,false,false⟩ y=true
      · simp [sqr,a,b] at h
        have q:=(A x).1 a
        have q':=(B y).1 b
        exact ⟨x,y,rfl,h.symm,⟨q.1.symm,q.2.1.symm,q.2.2.symm⟩,q'.1.symm,q'.2.1.symm,q'.2.2.symm⟩
      · simp [sqr,a,b] at h
    · simp [sqr,a] at h
  · rw [hs] at h
    by_cases a:F7.mt ⟨0,true,16,false,false⟩ x=true
    · by_cases b:F7.mt ⟨0,false,3,false,false⟩ y=true
      · simp [sqr,a,b] at h
      · simp [sqr,a,b] at h
    · simp [sqr,a] at h
theorem l16 (xs:List Int) (h:xs.length=16):∃ x0 x1 x2 x3 x4 x5 x6 x7 x8 x9 x10 x11 x12 x13 x14 x15,xs=[x0,x1,x2,x3,x4,x5,x6,x7,x8,x9,x10,x11,x12,x13,x14,x15]:=by
  match xs,h with
  | [x0,x1,x2,x3,x4,x5,x6,x7,x8,x9,x10,x11,x12,x13,x14,x15],_ => exact ⟨_,_,_,_,_,_,_,_,_,_,_,_,_,_,_,_,rfl⟩
abbrev lf (b:List Int):El:=.mk 0 false 6 false b (some b.length) true [] (some 0)
abbrev tp (s:List El) (n:Nat):El:=.mk 0 true 16 true [] (some 0) false s (some n)
theorem lf_core (x:El) (b:List Int) (hv:vld x.core) (h:x.c=0 ∧ x.k=false ∧ x.n=6) (hb:b=x.b):(lf b).core=x.core:=by
  rw [vld_eq] at hv
  have s0:=hv.2.2.1 h.2.1
  rw [El.core_eq,El.core_eq x,h.1,h.2.1,h.2.2,s0,hb]
  rfl
theorem lf_ok (b:List Int) (hb:isB b) (hl:b.length ≤ 9223372036854775807):(lf b).ok:=by
  rw [El.ok_eq]
  exact ⟨by simp [El.c],by simp [El.n],hb,hl,by simp [El.s],fun y hy => by cases hy⟩
theorem tp_ok (s:List El) (n:Nat) (h:∀ x ∈ s,x.ok) (hl:s.length ≤ 2):(tp s n).ok:=by
  rw [El.ok_eq]
  exact ⟨by simp [El.c],by simp [El.n],by simp [El.b,isB],by simp [El.b],by simp only [El.s]; omega,h⟩
theorem core_of (e:El) (hv:vld e.core) (ht:e.c=0 ∧ e.k=true ∧ e.n=16) (s:List El) (n:Nat) (h:El.cores s=El.cores e.s):(tp s n).core=e.core:=by
  rw [vld_eq] at hv
  have b0:=hv.2.1 ht.2.1
  rw [El.core_eq,El.core_eq e,ht.1,ht.2.1,ht.2.2,b0,← h]; rfl
end AP
end
section
open Ab Go TabE Sp E34 F1 F4 F5
namespace F20
abbrev zc:List AV:=[.sl true [] (some 0),.int .i64 0]
end F20
end
section
open Ab Go TabE
attribute [local simp ↓] s_seq s_reg s_regd s_cond s_block s_cons s_consG s_regD
attribute [local simp] s_nil s_loop s_round s_lpn s_lpe s_lpr firstReg s_gt s_gf s_wb s_wu s_val s_valN s_skip s_calls s_callP s_cax lookR flatR pureKs s_ret s_rgx s_sqn s_sqr s_sqe s_cdb s_bkn s_bkr s_bke s_exit s_ret' s_skip' s_finr s_finn s_fin1 s_fix s_clean s_gc0 o_tmp o_int o_bool o_nil o_str o_fn o_nil' l_hit l_miss l_nil ol_nil ol_cons ol_some x_move x_assign x_pick pk_t pk_f x_bin bn_s x_un x_extract x_callF cl_no x_callB x_callBF frzV x_conv cvx convA frame0 binA intOp resL resA results1 sealLW AV.pure AV.pureL keepT x_alloc x_box bxx x_build bdx x_buildSlice bsx x_buildSliceF bsf x_load ldx x_store stx x_slice slx x_fieldAddr x_field x_index ixx x_indexAddr iax x_makeSlice msx x_makeSliceF msf x_nilCheck newK genOf setK lookK fillA writeL writeC readC conts TyI.mk1 sliceA boundsA boundsB fitsA numA indexAddrA fieldAddrA partA fieldA indexA appendA copyA builtinA AV.cells chunk gcH reach keysT keepK inKs AV.keys AV.keysL Ty.isAgg eq1 eqL convA.go ltI w_u8 w_u32 w_u64 w_i64 w_fdiv w_tdiv w_tmod IntKind.bits unA sc_int sc_bool sc_str sc_sl sc_ref sc_ptr sc_pel sc_nilp sc_fn sc_nilf sc_if sc_nili sc_agg sc_tup sc_mem bs_pure bs_kl bs_length bs_cells bs_all sl_row sealRow sealY sl_int sl_bool sl_str sl_sl sl_nilp sl_nilf sl_nili sl_pel sl_agg sl_tup sl_fn sl_if nat_1 bs_cons bs_nil i_beq i_bne x_mkF x_mkI x_tassert x_panic s_pan s_sqp s_bkp s_finp s_fixp s_lpp s_rgp s_retp s_site s_stxN s_stxO x_callT clx El.avs_len s_dyn0 s_rgy barOf dynChk footL dynOK disjK keysOp opVals Op.operands
section
open Ab Go TabE Sp E34 F1 F5
namespace FO
theorem sealM_pure:∀ (m:List Bool) (args:List AV) (h:Heap),AV.pureL args=true → sealM (sealA 20) m h args=some (args,h)
  | [],[],h,_ => rfl
  | [],x :: r,h,hp => by
    unfold sealM
    exact sealL_of_pure 19 _ h hp
  | true :: m,[],h,_ => rfl
  | false :: m,[],h,_ => rfl
  | b :: m,x :: r,h,hp => by
    have hp':x.pure=true ∧ AV.pureL r=true:=by simpa [AV.pureL] using hp
    have ih:=sealM_pure m r h hp'.2
    cases b
    · unfold sealM
      have:sealA 20 h x=some (x,h):=by unfold sealA; rw [if_pos hp'.1]
      rw [this]
      simp only [ih]
    · unfold sealM
      rw [ih]
theorem setK_same:∀ (h:Heap) (key:Key) (o:AObj),lookK h key=some o → setK h key o=h
  | [],key,o,h => by simp [lookK] at h
  | (k,x) :: r,key,o,h => by
    unfold lookK at h
    unfold setK
    by_cases e:k=key
    · rw [if_pos e] at h ⊢; cases h; rw [e]
    · rw [if_neg e] at h ⊢; rw [setK_same r key o h]
theorem op_fresh {run:RunF} {slot:Nat} {g:FuncId} {m:List Bool} {args:List AV} {h hf:Heap} {v:AV} (ks:List Key) (hp:AV.pureL args=true) (hr:run g args []=some (.ret v,hf))
    (e7:dd (reach hf 3 (AV.keysL [v]))=ks) (cl:closedH hf ks ks=true) (nk:∀ k ∈ ks,k.1 ≠ 0) (vk:(AV.keysL [v]).all (inKs ks)=true) :
    opened m false run slot g args h=some (.ret (AV.rn (outK [] ks slot (genOf h 1 slot)) v),putAll hf (outK [] ks slot (genOf h 1 slot)) ks h):=by
  unfold opened
  rw [sealM_pure m args h hp]
  simp only
  have e0:AV.keysL args=[]:=AV.keysL_pure _ hp
  rw [e0]
  have e2:dd (reach h 3 [])=[]:=rfl
  rw [e2]
  unfold lendA
  have e3:lendH h (inK []) []=some []:=rfl
  rw [e3]
  simp only [e0]
  rw [if_pos ⟨by rfl,by rfl⟩]
  have e5:AV.rnL (inK []) args=args:=rnL_pure args hp
  rw [e5,hr]
  have e9:lentKs 0=[]:=rfl
  simp only [backR,Bool.false_eq_true,if_false,backV,Ab.back,List.length_nil,e9,List.nil_append,e7,backA]
  have ok:ks.all (okK 0)=true:=List.all_eq_true.2 fun k hk => by simp [okK,nk k hk]
  have fl:ks.filter (fun k => !decide (k.1=0))=ks:=List.filter_eq_self.2 fun k hk => by simp [nk k hk]
  rw [if_pos ⟨cl,ok,vk,by rfl⟩]
  simp only [fl,AV.rnL]
abbrev fr (x:Int):AObj:=⟨[.int .i64 x],true,true,false,1,false⟩
end FO
end
end
section
open Ab Go TabE Sp E12 E18 E26 E34 E36 F1 F4 F5 F20
namespace F23
structure Gd (x:El):Prop where
  ok:x.ok
  vld:vld x.core
  fw:Fw 1000 x
  dep:dep x.core ≤ 16
  cnt:cnt x.core ≤ 60
  len:(enc x.core).length ≤ 60000
theorem Gd.sub {e x:El} (g:Gd e) (hx:x ∈ e.s):Gd x:=by
  obtain ⟨v1,v2,v3,v4⟩:=(vld_eq e).1 g.vld
  have f:=g.fw
  obtain ⟨_,h1,h2⟩:=f
  have d:=g.dep
  rw [dep_eq] at d
  have c:=g.cnt
  rw [cnt_eq] at c
  have:=deps_mem hx
  have:=cnts_mem hx
  have l:=g.len
  have lm:=encs_mem hx
  rw [enc_eq,List.length_append,List.length_append,List.length_append] at l
  exact ⟨g.ok.sub x hx,vlds_all.1 v4 x hx,h2 x hx,by omega,by omega,by omega⟩
theorem Gd.chk {e:El} (g:Gd e):(chk e.core 1 0 0).1=0:=chk_of _ _ _ _ g.vld (by have:=g.dep; omega) (by have:=g.cnt; omega)
theorem Gd.sl {e:El} (g:Gd e):e.s.length ≤ 60:=by
  have c:=g.cnt
  rw [cnt_eq] at c
  have:=cnts_len e.s
  omega
end F23
end
section
open Ab Go TabE Sp E34 F1 F4 F5 F20
namespace F64
inductive Wn where
  | no
  | lit (i:Nat) (w:Int)
  | giv (i:Nat) (w:Int)
def Wn.cells:Wn → List AV
  | .no => zc
  | .lit i w => [.sl false [.int .i64 i] none,.int .i64 w]
  | .giv _ w => [.ref (1,71,0) 0 1 none,.int .i64 w]
def Wn.row:Wn → Heap
  | .giv i _ => [((1,71,0),FO.fr i)]
  | _ => []
def Wn.er:Wn → Int
  | .no => 0
  | .lit _ w => w
  | .giv _ w => w
def mt:Option (Nat × Int) → Wn → Prop
  | none,w => w=.no
  | some (i,v),w => v ≠ 0 ∧ (w=.lit i v ∨ w=.giv i v)
end F64
end
section
open Ab Go TabE Sp E34 F1 F4 F5
namespace F31
abbrev z5:List AV:=[.int .u8 0,.bool false,.int .u32 0,.sl true [] (some 0),.sl true [] (some 0)]
abbrev BadA:AExit × St:=(.ret,⟨[(4,.ptr (1,4,0) 0),(5,.bool false)],[((1,4,0),bx z5)]⟩)
def nx (e:El) (p:Int):El ⊕ (AExit × St):=if p < 0 then .inr BadA else match e.s[p.toNat]? with
  | some x => .inl x
  | none => .inr BadA
end F31
end
section
open Ab Go TabE
attribute [local simp ↓] s_seq s_reg s_regd s_cond s_block s_cons s_consG s_regD
attribute [local simp] s_nil s_loop s_round s_lpn s_lpe s_lpr firstReg s_gt s_gf s_wb s_wu s_val s_valN s_skip s_calls s_callP s_cax lookR flatR pureKs s_ret s_rgx s_sqn s_sqr s_sqe s_cdb s_bkn s_bkr s_bke s_exit s_ret' s_skip' s_finr s_finn s_fin1 s_fix s_clean s_gc0 o_tmp o_int o_bool o_nil o_str o_fn o_nil' l_hit l_miss l_nil ol_nil ol_cons ol_some x_move x_assign x_pick pk_t pk_f x_bin bn_s x_un x_extract x_callF cl_no x_callB x_callBF frzV x_conv cvx convA frame0 binA intOp resL resA results1 sealLW AV.pure AV.pureL keepT x_alloc x_box bxx x_build bdx x_buildSlice bsx x_buildSliceF bsf x_load ldx x_store stx x_slice slx x_fieldAddr x_field x_index ixx x_indexAddr iax x_makeSlice msx x_makeSliceF msf x_nilCheck newK genOf setK lookK fillA writeL writeC readC conts TyI.mk1 sliceA boundsA boundsB fitsA numA indexAddrA fieldAddrA partA fieldA indexA appendA copyA builtinA AV.cells chunk gcH reach keysT keepK inKs AV.keys AV.keysL Ty.isAgg eq1 eqL convA.go ltI w_u8 w_u32 w_u64 w_i64 w_fdiv w_tdiv w_tmod IntKind.bits unA sc_int sc_bool sc_str sc_sl sc_ref sc_ptr sc_pel sc_nilp sc_fn sc_nilf sc_if sc_nili sc_agg sc_tup sc_mem bs_pure bs_kl bs_length bs_cells bs_all sl_row sealRow sealY sl_int sl_bool sl_str sl_sl sl_nilp sl_nilf sl_nili sl_pel sl_agg sl_tup sl_fn sl_if nat_1 bs_cons bs_nil i_beq i_bne x_mkF x_mkI x_tassert x_panic s_pan s_sqp s_bkp s_finp s_fixp s_lpp s_rgp s_retp s_site s_stxN s_stxO x_callT clx El.avs_len s_dyn0 s_rgy barOf dynChk footL dynOK disjK keysOp opVals Op.operands
section
open Ab Go TabE Sp E34 F1 F4 F5 F31
namespace F43
mutual
def clo:El → El
  | .mk c k n fb b _ _ s _ => .mk c k n fb b (some b.length) false (cls s) (some s.length)
def cls:List El → List El
  | [] => []
  | x :: r => clo x :: cls r
end
theorem cls_map:∀ l,cls l=l.map clo
  | [] => rfl
  | e :: r => by rw [cls,cls_map r]; rfl
theorem cl_eq (e:El):clo e=.mk e.c e.k e.n e.fb e.b (some e.b.length) false (e.s.map clo) (some e.s.length):=by cases e; rw [clo,cls_map]; rfl
theorem cl_core:∀ e:El,(clo e).core=e.core:=by
  refine El.ind fun e ih => ?_
  rw [cl_eq,El.core_eq e,El.core,El.cores_map,El.cores_map,List.map_map]
  congr 1
  exact List.map_congr_left fun x hx => ih x hx
theorem cl_ok:∀ e:El,e.ok → (clo e).ok:=by
  refine El.ind fun e ih h => ?_
  rw [cl_eq,El.ok_eq]
  refine ⟨h.cb,h.nb,h.bb,h.bl,by simp only [El.s,List.length_map]; exact h.sl,fun x hx => ?_⟩
  obtain ⟨y,hy,rfl⟩:=List.mem_map.1 hx
  exact ih y hy (h.sub y hy)
def row (e:El) (i:Nat):List El:=(e.s.map clo).take i ++ List.replicate (e.s.length - i) E32.z0
theorem row_len (e:El) (i:Nat) (h:i ≤ e.s.length):(row e i).length=e.s.length:=by unfold row; simp; omega
theorem row_next (e x:El) (i:Nat) (hx:e.s[i]? = some x):(row e i).set i (clo x)=row e (i + 1):=by
  have hi:i < e.s.length:=(List.getElem?_eq_some_iff.1 hx).1
  apply List.ext_getElem?
  intro j
  have hm:(e.s.map clo)[i]? = some (clo x):=by rw [List.getElem?_map,hx]; rfl
  rw [List.getElem?_set,row_len e i (by omega)]
  unfold row
  by_cases hj:i=j
  · subst hj
    rw [if_pos rfl,if_pos hi,List.getElem?_append_left (by simp; omega),List.getElem?_take_of_lt (by omega),hm]
  · rw [if_neg hj]
    by_cases hl:j < i
    · rw [List.getElem?_append_left (by simp; omega),List.getElem?_append_left (by simp; omega),List.getElem?_take_of_lt hl,List.getElem?_take_of_lt (by omega)]
    · rw [List.getElem?_append_right (by simp; omega),List.getElem?_append_right (by simp; omega)]
      simp only [List.length_take,List.length_map,List.getElem?_replicate]
      have a:min i e.s.length=i:=by omega
      have b:min (i + 1) e.s.length=i + 1:=by omega
      rw [a,b]
      by_cases hq:j < e.s.length
      · rw [if_pos (by omega),if_pos (by omega)]
      · rw [if_neg (by omega),if_neg (by omega)]
theorem row_at (i n:Nat) (hi:i < n) (hn:n ≤ 1000000):∀ h o,lookK h (1,14,0)=some o → o.live=true → o.esz=5 → n * 5 ≤ o.cells.length → indexAddrA E 27 (.ref (1,14,0) 0 n (some n)) (.int .i64 (i:Int)) h=some (.ptr (1,14,0) (i * 5)):=by
  intro h o h1 h2 h3 h4
  have a:i * 5 + 5 ≤ n * 5:=by omega
  simp [indexAddrA,h1,h2,h3,hi]
def b86:Code:=lp c148 0
abbrev SN (e:El) (r:List El) (i:Nat):St:=⟨[(1,.ptr (1,1,0) 0),(2,.ptr (1,2,0) 0),(3,.ref (1,14,0) 0 e.s.length (some e.s.length)),(16,.sl e.fs (El.avs e.s) e.cs),(17,.int .i64 (e.s.length:Int)),(18,.int .i64 (i:Int))],[((1,1,0),bx [.int .u8 e.c,.bool e.k,.int .u32 e.n,.sl e.fb [] (some 0),.sl e.fs (El.avs e.s) e.cs]),((1,2,0),bx z5),((1,14,0),⟨El.fl r,true,true,true,5,true⟩)]⟩
theorem goN (q k1:Nat) (e x:El) (r:List El) (i:Nat) (hx:e.s[i]? = some x) (hr:r.length=e.s.length) (le:e.s.length ≤ 1000000) (B:∀ h,aCall E q 0 148 [x.av] h=some (.ret (clo x).av,h)) :
    rndO fn148 b86 q k1 (SN e r i)=some (.normal,SN e (r.set i (clo x)) (i + 1)):=by
  have hi:i < e.s.length:=(List.getElem?_eq_some_iff.1 hx).1
  have ix:=fun hp => El.at_ e.fs e.cs e.s i x hx hp
  have w:=w64' ((i:Int) + 1) (by omega) (by omega)
  have ir:=row_at i e.s.length hi (by omega)
  rw [El.av_eq,El.av_eq] at B
  have f1:=El.fl_len r
  have f2:(El.fl r).take (i * 5)=El.fl (r.take i):=El.fl_take i r
  have f3:(El.fl r).drop (i * 5 + 5)=El.fl (r.drop (i + 1)):=by rw [← El.fl_drop]; congr 1; omega
  have g1:i * 5 + 5 ≤ e.s.length * 5:=by omega
  have f4:=El.fl_keys r
  have f5:=El.fl_keys (r.take i)
  have f6:=El.fl_keys (r.drop (i + 1))
  have fs:=E32.fl_set r i (clo x) (by omega)
  simp [b86,lp,lps,c148,-indexAddrA,ix,ir,fs,w,hi,B,f1,f2,f3,f4,f5,f6,g1,hr,El.fl_keysr]
theorem lastN (q k1:Nat) (e:El) (r:List El):rndO fn148 b86 q k1 (SN e r e.s.length)=some (.exit 0,⟨(SN e r e.s.length).t ++ [(19,.bool false)],(SN e r e.s.length).h⟩):=by
  have f4:=El.fl_keys r
  simp [b86,lp,lps,c148,f4]
abbrev SR (e:El) (r:List El) (i:Nat) (ex:Bool):St:=⟨[(1,.ptr (1,1,0) 0),(2,.ptr (1,2,0) 0),(3,.ref (1,14,0) 0 e.s.length (some e.s.length)),(16,.sl e.fs (El.avs e.s) e.cs),(17,.int .i64 (e.s.length:Int)),(18,.int .i64 (i:Int))],[((1,1,0),bx [.int .u8 e.c,.bool e.k,.int .u32 e.n,.ref (1,8,0) 0 e.b.length (some e.b.length),.sl e.fs (El.avs e.s) e.cs]),((1,2,0),bx z5),((1,8,0),⟨bs e.b,true,true,ex,1,false⟩),((1,14,0),⟨El.fl r,true,true,true,5,true⟩)]⟩
theorem goR (q k1:Nat) (e x:El) (r:List El) (i:Nat) (ex:Bool) (hx:e.s[i]? = some x) (hr:r.length=e.s.length) (le:e.s.length ≤ 1000000) (B:∀ h,aCall E q 0 148 [x.av] h=some (.ret (clo x).av,h)) :
    rndO fn148 b86 q k1 (SR e r i ex)=some (.normal,SR e (r.set i (clo x)) (i + 1) ex):=by
  have hi:i < e.s.length:=(List.getElem?_eq_some_iff.1 hx).1
  have ix:=fun hp => El.at_ e.fs e.cs e.s i x hx hp
  have w:=w64' ((i:Int) + 1) (by omega) (by omega)
  have ir:=row_at i e.s.length hi (by omega)
  rw [El.av_eq,El.av_eq] at B
  have f1:=El.fl_len r
  have f2:(El.fl r).take (i * 5)=El.fl (r.take i):=El.fl_take i r
  have f3:(El.fl r).drop (i * 5 + 5)=El.fl (r.drop (i + 1)):=by rw [← El.fl_drop]; congr 1; omega
  have g1:i * 5 + 5 ≤ e.s.length * 5:=by omega
  have f4:=El.fl_keys r
  have f5:=El.fl_keys (r.take i)
  have f6:=El.fl_keys (r.drop (i + 1))
  have fs:=E32.fl_set r i (clo x) (by omega)
  simp [b86,lp,lps,c148,-indexAddrA,ix,ir,fs,w,hi,B,f1,f2,f3,f4,f5,f6,g1,hr,El.fl_keysr]
theorem lastR (q k1:Nat) (e:El) (r:List El) (ex:Bool):rndO fn148 b86 q k1 (SR e r e.s.length ex)=some (.exit 0,⟨(SR e r e.s.length ex).t ++ [(19,.bool false)],(SR e r e.s.length ex).h⟩):=by
  have f4:=El.fl_keys r
  simp [b86,lp,lps,c148,f4]
end F43
end
section
open Ab Go TabE Sp E34 F1 F4 F5 F31 F43
namespace F44
abbrev br (b:List Int) (ex:Bool):AObj:=⟨bs b,true,true,ex,1,false⟩
def ret1 (k:Key):Option (ARes × Heap) → Option (ARes × Option AObj)
  | some (r,h) => some (r,lookK h k)
  | none => none
theorem ret1_eq {k:Key} {x:Option (ARes × Heap)} {r a} (h:ret1 k x=some (r,a)):∃ hf,x=some (r,hf) ∧ lookK hf k=a:=by
  unfold ret1 at h
  split at h
  · cases h; exact ⟨_,rfl,rfl⟩
  · cases h
theorem clone_nil (q:Nat) (hq:13 ≤ q) (m:List Bool) (slot:Nat) (c:Option Nat) (h:Heap):opened m false (aRun E q) slot 165 [.sl true [] c] h=some (.ret (.sl true [] (some 0)),h):=by
  have key:ret1 (1,5,0) (aRun E (12 + 1) 165 [.sl true [] c] [])=some (.ret (.sl true [] (some 0)),none):=by
    rw [aRun_fn rfl E_fn165 rfl (Nat.le_of_ble_eq_true rfl),body_165,c165]
    simp [ret1]
  obtain ⟨hf,h1,h2⟩:=ret1_eq key
  rw [FO.op_fresh (m:=m) (slot:=slot) (h:=h) [] (by rfl) (aRun_le E (12 + 1) q hq _ _ _ _ h1) (by rfl) (by rfl) (by simp) (by rfl)]
  rfl
theorem clone_emp (q:Nat) (hq:13 ≤ q) (m:List Bool) (slot:Nat) (c:Option Nat) (h:Heap):opened m false (aRun E q) slot 165 [.sl false [] c] h=some (.ret (.ref (1,slot,genOf h 1 slot) 0 0 (some 0)),setK h (1,slot,genOf h 1 slot) (br [] true)):=by
  have key:ret1 (1,5,0) (aRun E (12 + 1) 165 [.sl false [] c] [])=some (.ret (.ref (1,5,0) 0 0 (some 0)),some (br [] true)):=by
    rw [aRun_fn rfl E_fn165 rfl (Nat.le_of_ble_eq_true rfl),body_165,c165]
    simp [ret1]
  obtain ⟨hf,h1,h2⟩:=ret1_eq key
  rw [FO.op_fresh (m:=m) (slot:=slot) (h:=h) [(1,5,0)] (by rfl) (aRun_le E (12 + 1) q hq _ _ _ _ h1) (by simp [reach,h2,AV.keysL,AV.keys,dd,bs_nil]) (by simp [closedH,h2,AV.keysL,AV.keys,bs_nil]) (by simp) (by simp [AV.keysL,AV.keys,inKs])]
  simp [AV.rn,AV.rnL,outK,posK,putAll,h2,bs_nil,br]
theorem clone_row (b:List Int) (lb:b.length ≤ 1000000) (hb:b ≠ []) (q:Nat) (hq:13 ≤ q) (m:List Bool) (slot:Nat) (c:Option Nat) (h:Heap):opened m false (aRun E q) slot 165 [.sl false (bs b) c] h=some (.ret (.ref (1,slot,genOf h 1 slot) 0 b.length none),setK h (1,slot,genOf h 1 slot) (br b false)):=by
  have kb:=bs_kl b
  have lbs:=bs_len b
  have cp:b.length ≤ 70368744177664:=by omega
  have key:ret1 (1,7,0) (aRun E (12 + 1) 165 [.sl false (bs b) c] [])=some (.ret (.ref (1,7,0) 0 b.length none),some (br b false)):=by
    rw [aRun_fn rfl E_fn165 rfl (Nat.le_of_ble_eq_true rfl),body_165,c165]
    simp [ret1,hb,cp]
  obtain ⟨hf,h1,h2⟩:=ret1_eq key
  have rb:∀ φ,AV.rnL φ (bs b)=bs b:=fun φ => rnL_pure _ (bs_pure b)
  rw [FO.op_fresh (m:=m) (slot:=slot) (h:=h) [(1,7,0)] (by simp [AV.pureL,AV.pure]) (aRun_le E (12 + 1) q hq _ _ _ _ h1) (by simp [reach,h2,AV.keysL,AV.keys,dd,kb]) (by simp [closedH,h2,AV.keysL,AV.keys,kb]) (by simp) (by simp [AV.keysL,AV.keys,inKs])]
  simp [AV.rn,AV.rnL,outK,posK,putAll,h2,rb]
theorem clip_nil (q:Nat) (hq:13 ≤ q) (m:List Bool) (slot:Nat) (h:Heap):opened m false (aRun E q) slot 131 [.sl true [] (some 0)] h=some (.ret (.sl true [] (some 0)),h):=by
  have key:ret1 (1,5,0) (aRun E (12 + 1) 131 [.sl true [] (some 0)] [])=some (.ret (.sl true [] (some 0)),none):=by
    rw [aRun_fn rfl E_fn131 rfl (Nat.le_of_ble_eq_true rfl),body_131,c131]
    simp [ret1]
  obtain ⟨hf,h1,h2⟩:=ret1_eq key
  rw [FO.op_fresh (m:=m) (slot:=slot) (h:=h) [] (by rfl) (aRun_le E (12 + 1) q hq _ _ _ _ h1) (by rfl) (by rfl) (by simp) (by rfl)]
  rfl
theorem clip_emp (q:Nat) (hq:13 ≤ q) (slot:Nat) (h:Heap) (key:Key) (hk:lookK h key=some (br [] true)):opened [true] false (aRun E q) slot 131 [.ref key 0 0 (some 0)] h=some (.ret (.sl false [] (some 0)),h):=by
  have kb:=bs_kl []
  have rb:∀ φ,AV.rnL φ (bs [])=bs []:=fun φ => rnL_pure _ (bs_pure [])
  have key0:ret1 (0,0,0) (aRun E (12 + 1) 131 [.ref (0,0,0) 0 0 (some 0)] [((0,0,0),br [] true)])=some (.ret (.sl false [] (some 0)),some (br [] true)):=by
    rw [aRun_fn rfl E_fn131 rfl (Nat.le_of_ble_eq_true rfl),body_131,c131]
    simp [ret1,kb,bs_nil,AV.keysL,AV.rnL]
  obtain ⟨hf,h1,h2⟩:=ret1_eq key0
  have hr:=aRun_le E (12 + 1) q hq _ _ _ _ h1
  unfold opened
  have e1:sealM (sealA 20) [true] h [.ref key 0 0 (some 0)]=some ([.ref key 0 0 (some 0)],h):=rfl
  rw [e1]
  simp only
  have e0:AV.keysL [.ref key 0 0 (some 0)]=[key]:=rfl
  rw [e0]
  have e2:dd (reach h 3 [key])=[key]:=by simp [reach,hk,kb,dd,bs_nil,AV.keysL,AV.rnL]
  rw [e2]
  unfold lendA
  have e3:lendH h (inK [key]) [key]=some [((0,0,0),br [] true)]:=by simp [lendH,hk,inK,posK,rb,bs_nil,AV.keysL,AV.rnL]
  rw [e3]
  have e4:closedH h [key] [key]=true:=by simp [closedH,hk,kb,bs_nil,AV.keysL,AV.rnL]
  simp only [e0]
  rw [if_pos ⟨e4,by simp [inKs]⟩]
  have e5:AV.rnL (inK [key]) [.ref key 0 0 (some 0)]=[.ref (0,0,0) 0 0 (some 0)]:=by simp [AV.rnL,AV.rn,inK,posK]
  rw [e5,hr]
  have e9:lentKs 1=[(0,0,0)]:=rfl
  have e8:AV.keysL [AV.sl false [] (some 0)]=[]:=rfl
  have e7:dd (reach hf 3 ([(0,0,0)] ++ []))=[(0,0,0)]:=by simp [reach,h2,kb,dd,bs_nil,AV.keysL,AV.rnL]
  have e10:closedH hf [(0,0,0)] [(0,0,0)]=true:=by simp [closedH,h2,kb,bs_nil,AV.keysL,AV.rnL]
  simp only [backR,Bool.false_eq_true,if_false,backV,Ab.back,List.length_singleton,e8,e9,e7,backA]
  rw [if_pos ⟨e10,by rfl,by rfl,by rfl⟩]
  have sk:=FO.setK_same h key _ hk
  simp only [br,bs_nil] at h2 sk
  simp [AV.rnL,AV.rn,outK,posK,putAll,h2,rb,sk,bs_nil,AV.keysL,AV.rnL]
theorem clip_row (q:Nat) (hq:13 ≤ q) (slot:Nat) (h:Heap) (key:Key) (b:List Int) (ex:Bool) (hb:b ≠ []) (hk:lookK h key=some (br b ex)):opened [true] false (aRun E q) slot 131 [.ref key 0 b.length none] h=some (.ret (.ref key 0 b.length (some b.length)),h):=by
  have kb:=bs_kl b
  have lbs:=bs_len b
  have rb:∀ φ,AV.rnL φ (bs b)=bs b:=fun φ => rnL_pure _ (bs_pure b)
  have key0:ret1 (0,0,0) (aRun E (12 + 1) 131 [.ref (0,0,0) 0 b.length none] [((0,0,0),br b ex)])=some (.ret (.ref (0,0,0) 0 b.length (some b.length)),some (br b ex)):=by
    rw [aRun_fn rfl E_fn131 rfl (Nat.le_of_ble_eq_true rfl),body_131,c131]
    simp [ret1,kb,hb]
  obtain ⟨hf,h1,h2⟩:=ret1_eq key0
  have hr:=aRun_le E (12 + 1) q hq _ _ _ _ h1
  unfold opened
  have e1:sealM (sealA 20) [true] h [.ref key 0 b.length none]=some ([.ref key 0 b.length none],h):=rfl
  rw [e1]
  simp only
  have e0:AV.keysL [.ref key 0 b.length none]=[key]:=rfl
  rw [e0]
  have e2:dd (reach h 3 [key])=[key]:=by simp [reach,hk,kb,dd]
  rw [e2]
  unfold lendA
  have e3:lendH h (inK [key]) [key]=some [((0,0,0),br b ex)]:=by simp [lendH,hk,inK,posK,rb]
  rw [e3]
  have e4:closedH h [key] [key]=true:=by simp [closedH,hk,kb]
  simp only [e0]
  rw [if_pos ⟨e4,by simp [inKs]⟩]
  have e5:AV.rnL (inK [key]) [.ref key 0 b.length none]=[.ref (0,0,0) 0 b.length none]:=by simp [AV.rnL,AV.rn,inK,posK]
  rw [e5,hr]
  have e9:lentKs 1=[(0,0,0)]:=rfl
  have e8:AV.keysL [AV.ref (0,0,0) 0 b.length (some b.length)]=[(0,0,0)]:=rfl
  have e7:dd (reach hf 3 ([(0,0,0)] ++ [(0,0,0)]))=[(0,0,0)]:=by simp [reach,h2,kb,dd]
  have e10:closedH hf [(0,0,0)] [(0,0,0)]=true:=by simp [closedH,h2,kb]
  simp only [backR,Bool.false_eq_true,if_false,backV,Ab.back,List.length_singleton,e8,e9,e7,backA]
  rw [if_pos ⟨e10,by rfl,by rfl,by rfl⟩]
  have sk:=FO.setK_same h key _ hk
  simp [AV.rnL,AV.rn,outK,posK,putAll,h2,rb,sk]
end F44
end
end
