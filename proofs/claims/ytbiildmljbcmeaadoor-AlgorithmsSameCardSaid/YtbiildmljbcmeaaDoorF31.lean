/- Own work, no conditions. -/
import Derived.Test.YtbiildmljbcmeaaDoorF5
import Derived.Test.YtbiildmljbcmeaaDoorOP
import Derived.Test.YtbiildmljbcmeaaDoorP5
import Derived.Test.YtbiildmljbcmeaaDoorB40
set_option maxRecDepth 20000
set_option linter.unusedSimpArgs false
set_option linter.unusedVariables false
set_option maxHeartbeats 16000000
section
open Ab Go TabE Sp E34 F1
namespace Rw
def row {α:Type} (f:α → List AV) (l:List α):List AV:=l.flatMap f
variable {α:Type} {f:α → List AV} {n:Nat}
end Rw
namespace F6
open Rw
structure Fld where
  c:Int
  k:Bool
  n:Int
  any:Bool
  opt:Bool
def Fld.cells (x:Fld):List AV:=[.int .u8 x.c,.bool x.k,.int .u32 x.n,.bool x.any,.bool x.opt]
abbrev Fld.av (x:Fld):AV:=.agg x.cells
structure Fa where
  t:Int
  m:Int
def Fa.av (x:Fa):AV:=.agg [.int .u8 x.t,.int .u8 x.m]
def Fa.ok (x:Fa):Prop:=(0 ≤ x.t ∧ x.t < 256) ∧ (0 ≤ x.m ∧ x.m < 256)
abbrev S0 (f:Bool) (c:Option Nat) (l:List Fa) (i:Nat):St:=⟨[(0,.sl f (l.map Fa.av) c),(3,.sl true [] (some 0)),(4,.int .i64 (i:Int))],[]⟩
end F6
end
section
open Ab Go TabE
attribute [local simp ↓] s_seq s_reg s_regd s_cond s_block s_cons s_consG s_regD
attribute [local simp] s_nil s_loop s_round s_lpn s_lpe s_lpr firstReg s_gt s_gf s_wb s_wu s_val s_valN s_skip s_calls s_callP s_cax lookR flatR pureKs s_ret s_rgx s_sqn s_sqr s_sqe s_cdb s_bkn s_bkr s_bke s_exit s_ret' s_skip' s_finr s_finn s_fin1 s_fix s_clean s_gc0 o_tmp o_int o_bool o_nil o_str o_fn o_nil' l_hit l_miss l_nil ol_nil ol_cons ol_some x_move x_assign x_pick pk_t pk_f x_bin bn_s x_un x_extract x_callF cl_no x_callB x_callBF frzV x_conv cvx convA frame0 binA intOp resL resA results1 sealLW AV.pure AV.pureL keepT x_alloc x_box bxx x_build bdx x_buildSlice bsx x_buildSliceF bsf x_load ldx x_store stx x_slice slx x_fieldAddr x_field x_index ixx x_indexAddr iax x_makeSlice msx x_makeSliceF msf x_nilCheck newK genOf setK lookK fillA writeL writeC readC conts TyI.mk1 sliceA boundsA boundsB fitsA numA indexAddrA fieldAddrA partA fieldA indexA appendA copyA builtinA AV.cells chunk gcH reach keysT keepK inKs AV.keys AV.keysL Ty.isAgg eq1 eqL convA.go ltI w_u8 w_u32 w_u64 w_i64 w_fdiv w_tdiv w_tmod IntKind.bits unA sc_int sc_bool sc_str sc_sl sc_ref sc_ptr sc_pel sc_nilp sc_fn sc_nilf sc_if sc_nili sc_agg sc_tup sc_mem bs_pure bs_kl bs_length bs_cells bs_all sl_row sealRow sealY sl_int sl_bool sl_str sl_sl sl_nilp sl_nilf sl_nili sl_pel sl_agg sl_tup sl_fn sl_if nat_1 bs_cons bs_nil i_beq i_bne x_mkF x_mkI x_tassert x_panic s_pan s_sqp s_bkp s_finp s_fixp s_lpp s_rgp s_retp s_site s_stxN s_stxO x_callT clx El.avs_len s_dyn0 s_rgy barOf dynChk footL dynOK disjK keysOp opVals Op.operands
section
open Ab Go TabE Sp E34 F1 Rw F5 F6
namespace F7
def mt (x:Fld) (y:El):Bool:=x.any || (decide (x.c=y.c) && (decide (x.k=y.k) && decide (x.n=y.n)))
theorem matches_ (x:Fld) (y:El):Con E 10 115 [x.av,y.av] (.bool (mt x y)):=by
  refine con_of E_fn115 (by simp [AV.pureL,AV.pure,El.av_pure,Fld.cells]) (Nat.le_of_ble_eq_true rfl) rfl rfl (g:=[]) ?_
  rw [body_115,c115]
  unfold mt
  cases ha:x.any
  · by_cases a:x.c=y.c <;> by_cases b:x.k=y.k <;> by_cases c:x.n=y.n <;> simp [El.av_eq,Fld.cells,ha,a,b,c,fitZ]
  · simp [El.av_eq,Fld.cells,ha,fitZ]
def sqr (s:List El):List Fld → Nat → List Int → (List Int × Nat) ⊕ (Int × List Int)
  | [],j,o => .inl (o,j)
  | x :: r,j,o => match s[j]? with
    | some y => if mt x y=true then sqr s r (j + 1) (o ++ [(j:Int)]) else if x.opt=true then sqr s r j (o ++ [-1]) else .inr (9,[(j:Int)])
    | none => if x.opt=true then sqr s r j (o ++ [-1]) else .inr (7,[])
theorem fd_at (f c) (l:List Fld) (i:Nat) (x:Fld) (h:l[i]? = some x):∀ hp,indexAddrA E 76 (.sl f (l.map Fld.av) c) (.int .i64 i) hp=some (.pel [.int .u8 x.c,.bool x.k,.int .u32 x.n,.bool x.any,.bool x.opt]):=by
  intro hp
  have hi:i < l.length:=(List.getElem?_eq_some_iff.1 h).1
  unfold indexAddrA
  simp only [E_ty76,E_ty75]
  rw [if_pos ⟨by omega,by rw [List.length_map]; omega⟩]
  simp only [Int.toNat_natCast,List.getElem?_map,h,Option.map_some]
  rfl
def zr (z:Nat):List AV:=List.replicate z (.int .i64 0)
theorem zr_eq (z:Nat):List.replicate z (AV.int .i64 0)=zr z:=rfl
theorem zr_len (z:Nat):(zr z).length=z:=List.length_replicate
theorem zr_ns (z:Nat):zr z=ns (List.replicate z 0):=by simp [zr,ns]
theorem zr_pure (z:Nat):AV.pureL (zr z)=true:=by rw [zr_ns]; exact ns_pure _
theorem zr_keys (z:Nat):AV.keysL (zr z)=[]:=AV.keysL_pure _ (zr_pure z)
abbrev rw_ (o:List Int) (z:Nat):AObj:=⟨ns o ++ zr z,true,true,true,1,false⟩
theorem rw_keys (o z):AV.keysL (ns o ++ zr z)=[]:=by rw [El.keysL_app,ns_keys,zr_keys]; rfl
theorem rw_len (o z):(ns o ++ zr z).length=o.length + z:=by rw [List.length_append,ns_len,zr_len]
theorem rw_take (o:List Int) (z):(ns o ++ zr z).take o.length=ns o:=by rw [← ns_len o,List.take_left']; rfl
theorem rw_drop (o:List Int) (z):(ns o ++ zr (z + 1)).drop (o.length + 1)=zr z:=by
  have:(ns o ++ zr (z + 1)).drop (o.length + 1)=((ns o ++ zr (z + 1)).drop (ns o).length).drop 1:=by rw [List.drop_drop,ns_len]
  rw [this,List.drop_left']; rfl
  rfl
def b45:Code:=lp c69 0
abbrev S (f:Bool) (c:Option Nat) (l:List Fld) (e:El) (i j:Nat) (o:List Int) (z:Nat):St:=⟨[(3,.ptr (1,3,0) 0),(7,.ptr (1,7,0) 0),(8,.int .i64 (j:Int)),(9,.ref (1,26,0) 0 o.length (some l.length)),(27,.sl f (l.map Fld.av) c),(28,.int .i64 (l.length:Int)),(29,.int .i64 (i:Int))],[((1,3,0),bx (ec e)),((1,7,0),bx [.sl true [] (some 0),.int .i64 0]),((1,26,0),rw_ o z)]⟩
abbrev MC (q:Nat) (x:Fld) (y:El):Prop:=∀ h,aCall E q 0 115 [x.av,y.av] h=some (.ret (.bool (mt x y)),h)
abbrev Bad (p:List Int) (e:Int):Option (AExit × St):=some (.ret,⟨[(6,.sl true [] (some 0)),(7,.ptr (1,7,0) 0)],[((1,7,0),bx [.sl p.isEmpty (ns p) (some p.length),.int .i64 e])]⟩)
theorem hit (q k1:Nat) (f c) (l:List Fld) (e y:El) (i j:Nat) (o:List Int) (z:Nat) (x:Fld) (hx:l[i]? = some x) (hy:e.s[j]? = some y) (ll:l.length ≤ 1000) (hz:o.length + (z + 1)=l.length) (ls:e.s.length ≤ 9223372036854775807) (M:MC q x y) (m:mt x y=true) :
    rndO fn69 b45 q k1 (S f c l e i j o (z + 1))=some (.normal,S f c l e (i + 1) (j + 1) (o ++ [(j:Int)]) z):=by
  have hi:i < l.length:=(List.getElem?_eq_some_iff.1 hx).1
  have hj:j < e.s.length:=(List.getElem?_eq_some_iff.1 hy).1
  have ix:=fd_at f c l i x hx
  have iy:=fun hp => El.at_ e.fs e.cs e.s j y hy hp
  have w:=w64' ((i:Int) + 1) (by omega) (by omega)
  have w2:=w64' ((j:Int) + 1) (by omega) (by omega)
  rw [MC,El.av_eq,Fld.av,Fld.cells,m] at M
  have fit:o.length + 1 ≤ l.length:=by omega
  have fit2:o.length ≤ l.length:=by omega
  have k0:=rw_keys o (z + 1)
  have k1':=rw_keys (o ++ [(j:Int)]) z
  have e1:ns (o ++ [(j:Int)])=ns o ++ [.int .i64 (j:Int)]:=ns_app _ _
  rw [e1] at k1'
  simp at k1'
  simp [b45,lp,lps,c69,-indexAddrA,ix,iy,w,w2,hi,hj,M,fit,fit2,k0,k1',e1,rw_len,rw_take,rw_drop,zr_len,hz]
theorem opt (q k1:Nat) (f c) (l:List Fld) (e:El) (i j:Nat) (o:List Int) (z:Nat) (x:Fld) (hx:l[i]? = some x) (ll:l.length ≤ 1000) (hz:o.length + (z + 1)=l.length) (ls:e.s.length ≤ 9223372036854775807) (M:∀ y,e.s[j]? = some y → MC q x y ∧ mt x y=false) (ho:x.opt=true) :
    rndO fn69 b45 q k1 (S f c l e i j o (z + 1))=some (.normal,S f c l e (i + 1) j (o ++ [-1]) z):=by
  have hi:i < l.length:=(List.getElem?_eq_some_iff.1 hx).1
  have ix:=fd_at f c l i x hx
  have w:=w64' ((i:Int) + 1) (by omega) (by omega)
  have fit:o.length + 1 ≤ l.length:=by omega
  have fit2:o.length ≤ l.length:=by omega
  have k0:=rw_keys o (z + 1)
  have k1':=rw_keys (o ++ [-1]) z
  have e1:ns (o ++ [-1])=ns o ++ [.int .i64 (-1)]:=ns_app _ _
  rw [e1] at k1'
  simp at k1'
  cases hy:e.s[j]? with
  | none =>
    have hj:=List.getElem?_eq_none_iff.1 hy
    have hj':¬ j < e.s.length:=by omega
    simp [b45,lp,lps,c69,-indexAddrA,ix,w,hi,hj',ho,fit,fit2,k0,k1',e1,rw_len,rw_take,rw_drop,zr_len,hz]
  | some y =>
    have hj:j < e.s.length:=(List.getElem?_eq_some_iff.1 hy).1
    have iy:=fun hp => El.at_ e.fs e.cs e.s j y hy hp
    obtain ⟨M,m⟩:=M y hy
    rw [MC,El.av_eq,Fld.av,Fld.cells,m,ho] at M
    simp [b45,lp,lps,c69,-indexAddrA,ix,iy,w,hi,hj,M,ho,fit,fit2,k0,k1',e1,rw_len,rw_take,rw_drop,zr_len,hz]
theorem short (q k1:Nat) (f c) (l:List Fld) (e:El) (i:Nat) (o:List Int) (z:Nat) (x:Fld) (hx:l[i]? = some x) (ll:l.length ≤ 1000) (ho:x.opt=false) (F:∀ h,aCall E q 0 114 [.int .i64 7,.sl true [] (some 0)] h=some (.ret (fF [] 7),h)) :
    rndO fn69 b45 q k1 (S f c l e i e.s.length o z)=Bad [] 7:=by
  have hi:i < l.length:=(List.getElem?_eq_some_iff.1 hx).1
  have ix:=fd_at f c l i x hx
  have k0:=rw_keys o z
  simp [fF] at F
  simp [b45,lp,lps,c69,-indexAddrA,ix,hi,ho,k0,F]
theorem wrong (q k1:Nat) (f c) (l:List Fld) (e y:El) (i j:Nat) (o:List Int) (z:Nat) (x:Fld) (hx:l[i]? = some x) (hy:e.s[j]? = some y) (ll:l.length ≤ 1000) (ls:e.s.length ≤ 9223372036854775807) (M:MC q x y) (m:mt x y=false) (ho:x.opt=false) (F:∀ h,aCall E q 0 114 [.int .i64 9,.sl false [.int .i64 (j:Int)] (some 1)] h=some (.ret (fF [(j:Int)] 9),h)) :
    rndO fn69 b45 q k1 (S f c l e i j o z)=Bad [(j:Int)] 9:=by
  have hi:i < l.length:=(List.getElem?_eq_some_iff.1 hx).1
  have hj:j < e.s.length:=(List.getElem?_eq_some_iff.1 hy).1
  have hj2:¬ j=e.s.length:=by omega
  have hj3:¬ (j:Int)=e.s.length:=by omega
  have ix:=fd_at f c l i x hx
  have iy:=fun hp => El.at_ e.fs e.cs e.s j y hy hp
  have k0:=rw_keys o z
  rw [MC,El.av_eq,Fld.av,Fld.cells,m,ho] at M
  simp [fF] at F
  simp [b45,lp,lps,c69,-indexAddrA,ix,iy,hi,hj,hj2,hj3,ho,k0,F,M]
theorem last (q k1:Nat) (f c) (l:List Fld) (e:El) (j:Nat) (o:List Int) (z:Nat):rndO fn69 b45 q k1 (S f c l e l.length j o z)=some (.exit 1,⟨(S f c l e l.length j o z).t ++ [(30,.bool false)],(S f c l e l.length j o z).h⟩):=by
  have k0:=rw_keys o z
  simp [b45,lp,lps,c69,k0]
end F7
end
section
open Ab Go TabE Sp E34 F1 Rw F5 F6 F7
namespace F8
theorem sqr_len (s:List El):∀ (r:List Fld) (j:Nat) (o:List Int) (o':List Int) (j':Nat),j ≤ s.length → sqr s r j o=.inl (o',j') → o'.length=o.length + r.length ∧ j' ≤ s.length
  | [],j,o,o',j',hj,h => by unfold sqr at h; cases h; simp [hj]
  | x :: r,j,o,o',j',hj,h => by
    unfold sqr at h
    cases hy:s[j]? with
    | none =>
      rw [hy] at h
      simp only at h
      split at h
      · have:=sqr_len s r j _ o' j' hj h; simp at this ⊢; omega
      · cases h
    | some y =>
      rw [hy] at h
      have hl:j < s.length:=(List.getElem?_eq_some_iff.1 hy).1
      simp only at h
      split at h
      · have:=sqr_len s r (j + 1) _ o' j' (by omega) h; simp at this ⊢; omega
      · split at h
        · have:=sqr_len s r j _ o' j' hj h; simp at this ⊢; omega
        · cases h
def sq (e:El) (t:Int × Bool × Int) (l:List Fld):List Int ⊕ (Int × List Int) :=
  if 256 < l.length then .inr (3,[]) else if ¬ (e.c=t.1 ∧ e.k=t.2.1 ∧ e.n=t.2.2) then .inr (9,[]) else
  match sqr e.s l 0 [] with
  | .inr p => .inr p
  | .inl (o,j) => if j < e.s.length then .inr (8,[(j:Int)]) else .inl o
def qF:List Int ⊕ (Int × List Int) → AV
  | .inl o => .tup [.sl false (ns o) (some o.length),fF [] 0]
  | .inr (e,p) => .tup [.sl true [] (some 0),fF p e]
abbrev Lp (K:Nat):=aLoop (aCode E (site fn69 (aRun E K)) (dcall (aRun E K)) K 1 fn69 b45) (cleanS 1 ((firstReg b45).bind fn69.head))
theorem loop (K:Nat) (hK:30 ≤ K) (f c) (l:List Fld) (e:El) (ll:l.length ≤ 1000) (ls:e.s.length ≤ 9223372036854775807):∀ (r:List Fld) (i j:Nat) (o:List Int) (k:Nat),l.drop i=r → i + r.length=l.length → j ≤ e.s.length → o.length + r.length=l.length → r.length < k →
    Lp K k (F7.S f c l e i j o r.length)=(match sqr e.s r j o with
      | .inl (o',j') => some (.exit 1,⟨(F7.S f c l e l.length j' o' 0).t ++ [(30,.bool false)],(F7.S f c l e l.length j' o' 0).h⟩)
      | .inr (er,p) => Bad p er)
  | [],i,j,o,k,h1,h2,h3,h4,h5 => by
    obtain ⟨k,rfl⟩:∃ q,k=q + 1:=⟨k - 1,by omega⟩
    simp at h2
    subst h2
    exact aLoop_end (last K K f c l e j o 0) (by simp)
  | x :: r,i,j,o,k,h1,h2,h3,h4,h5 => by
    obtain ⟨k,rfl⟩:∃ q,k=q + 1:=⟨k - 1,by omega⟩
    simp only [List.length_cons] at h2 h4 h5 ⊢
    have hx:l[i]? = some x:=by
      have:=congrArg (fun l => l[0]?) h1
      simpa [List.getElem?_drop] using this
    have hd:l.drop (i + 1)=r:=by
      have:=congrArg List.tail h1
      simpa [List.tail_drop] using this
    have M:∀ y,MC K x y:=fun y h => matches_ x y K (by omega) 0 h
    unfold sqr
    have goOpt:x.opt=true → (∀ y,e.s[j]? = some y → mt x y=false) → Lp K (k + 1) (F7.S f c l e i j o (r.length + 1))=(match sqr e.s r j (o ++ [-1]) with
      | .inl (o',j') => some (.exit 1,⟨(F7.S f c l e l.length j' o' 0).t ++ [(30,.bool false)],(F7.S f c l e l.length j' o' 0).h⟩)
      | .inr (er,p) => Bad p er):=fun ho hm => by
      have I:=loop K hK f c l e ll ls r (i + 1) j (o ++ [-1]) k hd (by omega) h3 (by rw [List.length_append]; simp; omega) (by omega)
      exact (aLoop_succ (opt K K f c l e i j o r.length x hx ll (by omega) ls (fun y hy => ⟨M y,hm y hy⟩) ho)).trans I
    cases hy:e.s[j]? with
    | none =>
      have hj:=List.getElem?_eq_none_iff.1 hy
      obtain rfl:j=e.s.length:=by omega
      simp only
      by_cases ho:x.opt=true
      · rw [if_pos ho]; exact goOpt ho fun y h => by rw [hy] at h; cases h
      · rw [if_neg ho]
        exact aLoop_end (short K K f c l e i o (r.length + 1) x hx ll (by simpa using ho) fun h => fnil 7 K (by omega) 0 h) (by simp)
    | some y =>
      have hj:j < e.s.length:=(List.getElem?_eq_some_iff.1 hy).1
      simp only
      by_cases m:mt x y=true
      · rw [if_pos m]
        have I:=loop K hK f c l e ll ls r (i + 1) (j + 1) (o ++ [(j:Int)]) k hd (by omega) (by omega) (by rw [List.length_append]; simp; omega) (by omega)
        exact (aLoop_succ (hit K K f c l e y i j o r.length x hx hy ll (by omega) ls (M y) m)).trans I
      rw [if_neg m]
      have m':mt x y=false:=by simpa using m
      by_cases ho:x.opt=true
      · rw [if_pos ho]; exact goOpt ho fun y' h => by rw [hy] at h; cases h; exact m'
      · rw [if_neg ho]
        exact aLoop_end (wrong K K f c l e y i j o (r.length + 1) x hx hy ll ls (M y) m' (by simpa using ho) fun h => fone 9 j (some 1) K (by omega) 0 h) (by simp)
theorem sequence (f c) (l:List Fld) (e:El) (t:Int × Bool × Int) (ls:e.s.length ≤ 9223372036854775807) (l2:l.length ≤ 9223372036854775807):Con E (l.length + 60) 69 [e.av,.agg [.int .u8 t.1,.bool t.2.1,.int .u32 t.2.2],.sl f (l.map Fld.av) c] (qF (sq e t l)):=by
  obtain ⟨K,hK⟩:∃ K,l.length + 59=K:=⟨_,rfl⟩
  have eK:l.length + 60=K + 1:=by omega
  rw [eK]
  have f3:=fnil 3 K (by omega) 0
  have f9:=fnil 9 K (by omega) 0
  try simp [fF] at f3
  try simp [fF] at f9
  refine con_ofO E_fn69 (by simp [AV.pureL,AV.pure,El.av_pure]) (Nat.le_of_ble_eq_true rfl) rfl (g:=[]) ?_
  rw [body_69,c69]
  unfold sq
  by_cases big:256 < l.length
  · have big':(256:Int) < l.length:=by omega
    rw [if_pos big]
    simp [El.av_eq,big,big',f3,qF]
  rw [if_neg big]
  have big':¬ (256:Int) < l.length:=by omega
  by_cases a:e.c=t.1
  case neg => simp [El.av_eq,big,big',a,f9,qF,fitZ]
  by_cases b:e.k=t.2.1
  case neg => simp [El.av_eq,big,big',a,b,f9,qF,fitZ]
  by_cases d:e.n=t.2.2
  case neg => simp [El.av_eq,big,big',a,b,d,f9,qF,fitZ]
  rw [if_neg (fun h => h ⟨a,b,d⟩)]
  have L:=loop K (by omega) f c l e (by omega) ls l 0 0 [] K rfl (by omega) (by omega) (by simp) (by omega)
  have zz:=zr_eq l.length
  have mk:(l.length:Int) ≤ 70368744177664:=by omega
  have mk2:(l.length:Int) * 8 ≤ 70368744177664:=by omega
  have n0:(0:Int) ≤ (l.length:Int):=by omega
  have k0:=rw_keys [] l.length
  cases hr:sqr e.s l 0 [] with
  | inr p =>
    obtain ⟨er,p⟩:=p
    rw [hr] at L
    simp only [qF,fF]
    simp [F8.Lp,b45,lp,lps,c69,firstReg,F7.S,bx,ec,a,b,d,rw_] at L
    simp at k0
    simp [El.av_eq,-s_round,big,big',a,b,d,fitZ,L,zz,mk,mk2,k0,zr_len,zr_pure]
  | inl p =>
    obtain ⟨o,j⟩:=p
    have ln:=sqr_len e.s l 0 [] o j (by omega) hr
    simp at ln
    rw [hr] at L
    simp [F8.Lp,b45,lp,lps,c69,firstReg,F7.S,bx,ec,a,b,d,rw_] at L
    simp at k0
    have z0:zr 0=[]:=rfl
    rw [z0] at L
    simp at L
    have kj:=ns_keys o
    have pj:=ns_pure o
    have lj:=ns_len o
    simp only
    by_cases hj:j < e.s.length
    · have hj':(j:Int) < e.s.length:=by omega
      have f8:=fone 8 j (some 1) K (by omega) 0
      simp [fF] at f8
      rw [if_pos hj,qF]
      simp [El.av_eq,-s_round,big,big',a,b,d,fitZ,L,zz,mk,mk2,k0,zr_len,zr_pure,hj,hj',f8,kj,pj]
    · have hj':¬ (j:Int) < e.s.length:=by omega
      rw [if_neg hj,qF]
      simp [El.av_eq,-s_round,big,big',a,b,d,fitZ,L,zz,mk,mk2,k0,zr_len,zr_pure,hj,hj',kj,pj,lj,ln.1]
end F8
end
section
open Ab Go TabE Sp E34 F1 Rw F5 F6 F7 F8
namespace F9
def b46:Code:=lp c36 0
abbrev S0 (f:Bool) (c:Option Nat) (l:List Fld) (e:El) (i j:Nat):St:=⟨[(2,.sl f (l.map Fld.av) c),(3,.ptr (1,3,0) 0),(7,.ptr (1,7,0) 0),(8,.sl true [] (some 0)),(9,.int .i64 (j:Int)),(10,.int .i64 (i:Int))],[((1,3,0),bx (ec e)),((1,7,0),bx [.sl true [] (some 0),.int .i64 0])]⟩
abbrev SR (f:Bool) (c:Option Nat) (l:List Fld) (e:El) (i j:Nat) (o:List Int) (key:Key):St:=⟨[(2,.sl f (l.map Fld.av) c),(3,.ptr (1,3,0) 0),(7,.ptr (1,7,0) 0),(8,.ref key 0 o.length none),(9,.int .i64 (j:Int)),(10,.int .i64 (i:Int))],[((1,3,0),bx (ec e)),((1,7,0),bx [.sl true [] (some 0),.int .i64 0]),(key,⟨ns o,true,true,false,1,false⟩)]⟩
abbrev Ky (key:Key):Prop:=∃ g,key=(1,55,g) ∨ key=(1,65,g)
abbrev Bad (p:List Int) (e:Int):Option (AExit × St):=some (.ret,⟨[(6,.sl true [] (some 0)),(7,.ptr (1,7,0) 0)],[((1,7,0),bx [.sl p.isEmpty (ns p) (if p.isEmpty then some 0 else none),.int .i64 e])]⟩)
theorem mt_cases (x:Fld) (y:El):(F7.mt x y=true ∧ (x.any=true ∨ (x.any=false ∧ x.c=y.c ∧ x.k=y.k ∧ x.n=y.n))) ∨ (F7.mt x y=false ∧ x.any=false ∧ (¬ x.c=y.c ∨ (x.c=y.c ∧ ¬ x.k=y.k) ∨ (x.c=y.c ∧ x.k=y.k ∧ ¬ x.n=y.n))):=by
  unfold F7.mt
  cases ha:x.any
  · by_cases a:x.c=y.c
    · by_cases b:x.k=y.k
      · by_cases c:x.n=y.n
        · exact .inl ⟨by simp [a,b,c],.inr ⟨rfl,a,b,c⟩⟩
        · exact .inr ⟨by simp [a,b,c],rfl,.inr (.inr ⟨a,b,c⟩)⟩
      · exact .inr ⟨by simp [a,b],rfl,.inr (.inl ⟨a,b⟩)⟩
    · exact .inr ⟨by simp [a],rfl,.inl a⟩
  · exact .inl ⟨by simp,.inl rfl⟩
theorem hit0 (q k1:Nat) (f c) (l:List Fld) (e y:El) (i j:Nat) (x:Fld) (hx:l[i]? = some x) (hy:e.s[j]? = some y) (ll:l.length ≤ 1000) (ls:e.s.length ≤ 9223372036854775807) (m:F7.mt x y=true) :
    rnd fn36 b46 q k1 (S0 f c l e i j)=some (.normal,SR f c l e (i + 1) (j + 1) [(j:Int)] (1,55,0)):=by
  have hi:i < l.length:=(List.getElem?_eq_some_iff.1 hx).1
  have hj:j < e.s.length:=(List.getElem?_eq_some_iff.1 hy).1
  have ix:=fd_at f c l i x hx
  have iy:=fun hp => El.at_ e.fs e.cs e.s j y hy hp
  have w:=w64' ((i:Int) + 1) (by omega) (by omega)
  have w2:=w64' ((j:Int) + 1) (by omega) (by omega)
  rcases mt_cases x y with ⟨_,ha | ⟨ha,a1,a2,a3⟩⟩ | ⟨h,_⟩
  · simp [b46,lp,lps,c36,-indexAddrA,ix,iy,w,w2,hi,hj,ha]
  · simp [b46,lp,lps,c36,-indexAddrA,ix,iy,w,w2,hi,hj,ha,a1,a2,a3,fitZ]
  · rw [m] at h; cases h
theorem hitR (q k1:Nat) (f c) (l:List Fld) (e y:El) (i j:Nat) (o:List Int) (key:Key) (hk:Ky key) (x:Fld) (hx:l[i]? = some x) (hy:e.s[j]? = some y) (ll:l.length ≤ 1000) (lo:o.length ≤ 1000) (ls:e.s.length ≤ 9223372036854775807) (m:F7.mt x y=true) :
    ∃ key',Ky key' ∧ rnd fn36 b46 q k1 (SR f c l e i j o key)=some (.normal,SR f c l e (i + 1) (j + 1) (o ++ [(j:Int)]) key'):=by
  have hi:i < l.length:=(List.getElem?_eq_some_iff.1 hx).1
  have hj:j < e.s.length:=(List.getElem?_eq_some_iff.1 hy).1
  have ix:=fd_at f c l i x hx
  have iy:=fun hp => El.at_ e.fs e.cs e.s j y hy hp
  have w:=w64' ((i:Int) + 1) (by omega) (by omega)
  have w2:=w64' ((j:Int) + 1) (by omega) (by omega)
  have cs5:(o.length + 1) * 8 ≤ 70368744177664:=by omega
  have k0:=ns_keys o
  have p0:=ns_pure o
  have s0:=ns_scal o
  have l0:=ns_len o
  have k2:=ns_keys (o ++ [(j:Int)])
  have e1:ns (o ++ [(j:Int)])=ns o ++ [.int .i64 (j:Int)]:=ns_app _ _
  rw [e1] at k2
  refine ⟨(1,55,if key.2.1=55 then key.2.2 + 1 else 0),⟨_,.inl rfl⟩,?_⟩
  rcases mt_cases x y with ⟨_,ha | ⟨ha,a1,a2,a3⟩⟩ | ⟨h,_⟩
  · obtain ⟨g,rfl | rfl⟩:=hk <;> simp [b46,lp,lps,c36,-indexAddrA,ix,iy,w,w2,hi,hj,ha,cs5,k0,p0,s0,l0,k2,e1]
  · obtain ⟨g,rfl | rfl⟩:=hk <;> simp [b46,lp,lps,c36,-indexAddrA,ix,iy,w,w2,hi,hj,ha,a1,a2,a3,fitZ,cs5,k0,p0,s0,l0,k2,e1]
  · rw [m] at h; cases h
theorem opt0 (q k1:Nat) (f c) (l:List Fld) (e:El) (i j:Nat) (x:Fld) (hx:l[i]? = some x) (ll:l.length ≤ 1000) (ls:e.s.length ≤ 9223372036854775807) (M:∀ y,e.s[j]? = some y → F7.mt x y=false) (ho:x.opt=true) :
    rnd fn36 b46 q k1 (S0 f c l e i j)=some (.normal,SR f c l e (i + 1) j [-1] (1,65,0)):=by
  have hi:i < l.length:=(List.getElem?_eq_some_iff.1 hx).1
  have ix:=fd_at f c l i x hx
  have w:=w64' ((i:Int) + 1) (by omega) (by omega)
  cases hy:e.s[j]? with
  | none =>
    have hj:=List.getElem?_eq_none_iff.1 hy
    have hj':¬ j < e.s.length:=by omega
    simp [b46,lp,lps,c36,-indexAddrA,ix,w,hi,hj',ho]
  | some y =>
    have hj:j < e.s.length:=(List.getElem?_eq_some_iff.1 hy).1
    have iy:=fun hp => El.at_ e.fs e.cs e.s j y hy hp
    rcases mt_cases x y with ⟨h,_⟩ | ⟨_,ha,a1 | ⟨a1,a2⟩ | ⟨a1,a2,a3⟩⟩
    · rw [M y hy] at h; cases h
    · simp [b46,lp,lps,c36,-indexAddrA,ix,iy,w,hi,hj,ho,ha,a1,fitZ]
    · simp [b46,lp,lps,c36,-indexAddrA,ix,iy,w,hi,hj,ho,ha,a1,a2,fitZ]
    · simp [b46,lp,lps,c36,-indexAddrA,ix,iy,w,hi,hj,ho,ha,a1,a2,a3,fitZ]
theorem optR (q k1:Nat) (f c) (l:List Fld) (e:El) (i j:Nat) (o:List Int) (key:Key) (hk:Ky key) (x:Fld) (hx:l[i]? = some x) (ll:l.length ≤ 1000) (lo:o.length ≤ 1000) (ls:e.s.length ≤ 9223372036854775807) (M:∀ y,e.s[j]? = some y → F7.mt x y=false) (ho:x.opt=true) :
    ∃ key',Ky key' ∧ rnd fn36 b46 q k1 (SR f c l e i j o key)=some (.normal,SR f c l e (i + 1) j (o ++ [-1]) key'):=by
  have hi:i < l.length:=(List.getElem?_eq_some_iff.1 hx).1
  have ix:=fd_at f c l i x hx
  have w:=w64' ((i:Int) + 1) (by omega) (by omega)
  have cs5:(o.length + 1) * 8 ≤ 70368744177664:=by omega
  have k0:=ns_keys o
  have p0:=ns_pure o
  have s0:=ns_scal o
  have l0:=ns_len o
  have k2:=ns_keys (o ++ [-1])
  have e1:ns (o ++ [-1])=ns o ++ [.int .i64 (-1)]:=ns_app _ _
  rw [e1] at k2
  refine ⟨(1,65,if key.2.1=65 then key.2.2 + 1 else 0),⟨_,.inr rfl⟩,?_⟩
  cases hy:e.s[j]? with
  | none =>
    have hj:=List.getElem?_eq_none_iff.1 hy
    have hj':¬ j < e.s.length:=by omega
    obtain ⟨g,rfl | rfl⟩:=hk <;> simp [b46,lp,lps,c36,-indexAddrA,ix,w,hi,hj',ho,cs5,k0,p0,s0,l0,k2,e1]
  | some y =>
    have hj:j < e.s.length:=(List.getElem?_eq_some_iff.1 hy).1
    have iy:=fun hp => El.at_ e.fs e.cs e.s j y hy hp
    rcases mt_cases x y with ⟨h,_⟩ | ⟨_,ha,a1 | ⟨a1,a2⟩ | ⟨a1,a2,a3⟩⟩
    · rw [M y hy] at h; cases h
    · obtain ⟨g,rfl | rfl⟩:=hk <;> simp [b46,lp,lps,c36,-indexAddrA,ix,iy,w,hi,hj,ho,ha,a1,fitZ,cs5,k0,p0,s0,l0,k2,e1]
    · obtain ⟨g,rfl | rfl⟩:=hk <;> simp [b46,lp,lps,c36,-indexAddrA,ix,iy,w,hi,hj,ho,ha,a1,a2,fitZ,cs5,k0,p0,s0,l0,k2,e1]
    · obtain ⟨g,rfl | rfl⟩:=hk <;> simp [b46,lp,lps,c36,-indexAddrA,ix,iy,w,hi,hj,ho,ha,a1,a2,a3,fitZ,cs5,k0,p0,s0,l0,k2,e1]
end F9
end
section
open Ab Go TabE Sp E34 F1 Rw F5 F6 F7 F8 F9
namespace F10
abbrev RC (q:Nat) (e x:Int) (v:AV):Prop:=∀ h,aCall E q 0 35 [.int .i64 e,.int .i64 x] h=some (.ret v,h)
theorem short0 (q k1:Nat) (f c) (l:List Fld) (e:El) (i:Nat) (x:Fld) (hx:l[i]? = some x) (ho:x.opt=false) (F:RC q 7 (-1) (fR [] 7)) :
    rnd fn36 b46 q k1 (F9.S0 f c l e i e.s.length)=F9.Bad [] 7:=by
  have hi:i < l.length:=(List.getElem?_eq_some_iff.1 hx).1
  have ix:=fd_at f c l i x hx
  unfold RC at F
  try simp [fR] at F
  simp [b46,lp,lps,c36,-indexAddrA,ix,hi,ho,F]
theorem shortR (q k1:Nat) (f c) (l:List Fld) (e:El) (i:Nat) (o:List Int) (key:Key) (hk:Ky key) (x:Fld) (hx:l[i]? = some x) (ho:x.opt=false) (F:RC q 7 (-1) (fR [] 7)) :
    rnd fn36 b46 q k1 (F9.SR f c l e i e.s.length o key)=F9.Bad [] 7:=by
  have hi:i < l.length:=(List.getElem?_eq_some_iff.1 hx).1
  have ix:=fd_at f c l i x hx
  have k0:=ns_keys o
  unfold RC at F
  try simp [fR] at F
  obtain ⟨g,rfl | rfl⟩:=hk <;> simp [b46,lp,lps,c36,-indexAddrA,ix,hi,ho,F,k0]
theorem wrong0 (q k1:Nat) (f c) (l:List Fld) (e y:El) (i j:Nat) (x:Fld) (hx:l[i]? = some x) (hy:e.s[j]? = some y) (ls:e.s.length ≤ 9223372036854775807) (m:F7.mt x y=false) (ho:x.opt=false) (F:RC q 9 j (fR [(j:Int)] 9)) :
    rnd fn36 b46 q k1 (F9.S0 f c l e i j)=F9.Bad [(j:Int)] 9:=by
  have hi:i < l.length:=(List.getElem?_eq_some_iff.1 hx).1
  have hj:j < e.s.length:=(List.getElem?_eq_some_iff.1 hy).1
  have hj2:¬ j=e.s.length:=by omega
  have hj3:¬ (j:Int)=e.s.length:=by omega
  have ix:=fd_at f c l i x hx
  have iy:=fun hp => El.at_ e.fs e.cs e.s j y hy hp
  unfold RC at F
  try simp [fR] at F
  rcases mt_cases x y with ⟨h,_⟩ | ⟨_,ha,a1 | ⟨a1,a2⟩ | ⟨a1,a2,a3⟩⟩
  · rw [m] at h; cases h
  · simp [b46,lp,lps,c36,-indexAddrA,ix,iy,hi,hj,hj2,hj3,ho,ha,a1,fitZ,F]
  · simp [b46,lp,lps,c36,-indexAddrA,ix,iy,hi,hj,hj2,hj3,ho,ha,a1,a2,fitZ,F]
  · simp [b46,lp,lps,c36,-indexAddrA,ix,iy,hi,hj,hj2,hj3,ho,ha,a1,a2,a3,fitZ,F]
theorem wrongR (q k1:Nat) (f c) (l:List Fld) (e y:El) (i j:Nat) (o:List Int) (key:Key) (hk:Ky key) (x:Fld) (hx:l[i]? = some x) (hy:e.s[j]? = some y) (ls:e.s.length ≤ 9223372036854775807) (m:F7.mt x y=false) (ho:x.opt=false) (F:RC q 9 j (fR [(j:Int)] 9)) :
    rnd fn36 b46 q k1 (F9.SR f c l e i j o key)=F9.Bad [(j:Int)] 9:=by
  have hi:i < l.length:=(List.getElem?_eq_some_iff.1 hx).1
  have hj:j < e.s.length:=(List.getElem?_eq_some_iff.1 hy).1
  have hj2:¬ j=e.s.length:=by omega
  have hj3:¬ (j:Int)=e.s.length:=by omega
  have ix:=fd_at f c l i x hx
  have iy:=fun hp => El.at_ e.fs e.cs e.s j y hy hp
  have k0:=ns_keys o
  unfold RC at F
  try simp [fR] at F
  rcases mt_cases x y with ⟨h,_⟩ | ⟨_,ha,a1 | ⟨a1,a2⟩ | ⟨a1,a2,a3⟩⟩
  · rw [m] at h; cases h
  · obtain ⟨g,rfl | rfl⟩:=hk <;> simp [b46,lp,lps,c36,-indexAddrA,ix,iy,hi,hj,hj2,hj3,ho,ha,a1,fitZ,F,k0]
  · obtain ⟨g,rfl | rfl⟩:=hk <;> simp [b46,lp,lps,c36,-indexAddrA,ix,iy,hi,hj,hj2,hj3,ho,ha,a1,a2,fitZ,F,k0]
  · obtain ⟨g,rfl | rfl⟩:=hk <;> simp [b46,lp,lps,c36,-indexAddrA,ix,iy,hi,hj,hj2,hj3,ho,ha,a1,a2,a3,fitZ,F,k0]
theorem last0 (q k1:Nat) (f c) (l:List Fld) (e:El) (j:Nat):rnd fn36 b46 q k1 (F9.S0 f c l e l.length j)=some (.exit 0,⟨(F9.S0 f c l e l.length j).t ++ [(23,.bool false)],(F9.S0 f c l e l.length j).h⟩):=by
  simp [b46,lp,lps,c36]
theorem lastR (q k1:Nat) (f c) (l:List Fld) (e:El) (j:Nat) (o:List Int) (key:Key) (hk:Ky key):rnd fn36 b46 q k1 (F9.SR f c l e l.length j o key)=some (.exit 0,⟨(F9.SR f c l e l.length j o key).t ++ [(23,.bool false)],(F9.SR f c l e l.length j o key).h⟩):=by
  have k0:=ns_keys o
  obtain ⟨g,rfl | rfl⟩:=hk <;> simp [b46,lp,lps,c36,k0]
def Sx (f:Bool) (c:Option Nat) (l:List Fld) (e:El) (i j:Nat) (o:List Int) (key:Key):St:=if o=[] then F9.S0 f c l e i j else F9.SR f c l e i j o key
abbrev Lp (K:Nat):=aLoop (aCode E (aCall E K) (dcall (aRun E K)) K 1 fn36 b46) (cleanS 1 ((firstReg b46).bind fn36.head))
theorem loop (K:Nat) (hK:30 ≤ K) (f c) (l:List Fld) (e:El) (ll:l.length ≤ 256) (ls:e.s.length ≤ 9223372036854775807):∀ (r:List Fld) (i j:Nat) (o:List Int) (key:Key) (k:Nat),l.drop i=r → i + r.length=l.length → j ≤ e.s.length → o.length + r.length=l.length → Ky key → r.length < k →
    (match sqr e.s r j o with
      | .inl (o',j') => ∃ key',Ky key' ∧ F10.Lp K k (Sx f c l e i j o key)=some (.exit 0,⟨(Sx f c l e l.length j' o' key').t ++ [(23,.bool false)],(Sx f c l e l.length j' o' key').h⟩)
      | .inr (er,p) => F10.Lp K k (Sx f c l e i j o key)=F9.Bad p er)
  | [],i,j,o,key,k,h1,h2,h3,h4,hk,h5 => by
    obtain ⟨k,rfl⟩:∃ q,k=q + 1:=⟨k - 1,by omega⟩
    simp at h2
    subst h2
    refine ⟨key,hk,?_⟩
    unfold Sx
    by_cases o0:o=[]
    · rw [if_pos o0]; exact aLoop_end (last0 K K f c l e j) (by simp)
    · rw [if_neg o0]; exact aLoop_end (lastR K K f c l e j o key hk) (by simp)
  | x :: r,i,j,o,key,k,h1,h2,h3,h4,hk,h5 => by
    obtain ⟨k,rfl⟩:∃ q,k=q + 1:=⟨k - 1,by omega⟩
    simp only [List.length_cons] at h2 h4 h5
    have hx:l[i]? = some x:=by
      have:=congrArg (fun l => l[0]?) h1
      simpa [List.getElem?_drop] using this
    have hd:l.drop (i + 1)=r:=by
      have:=congrArg List.tail h1
      simpa [List.tail_drop] using this
    unfold sqr
    have nx:∀ (v:Int) (j':Nat),j' ≤ e.s.length → (o=[] → ∃ key',Ky key' ∧ rnd fn36 b46 K K (F9.S0 f c l e i j)=some (.normal,F9.SR f c l e (i + 1) j' [v] key')) → (o ≠ [] → ∃ key',Ky key' ∧ rnd fn36 b46 K K (F9.SR f c l e i j o key)=some (.normal,F9.SR f c l e (i + 1) j' (o ++ [v]) key')) →
        (match sqr e.s r j' (o ++ [v]) with
          | .inl (o',j') => ∃ key',Ky key' ∧ F10.Lp K (k + 1) (Sx f c l e i j o key)=some (.exit 0,⟨(Sx f c l e l.length j' o' key').t ++ [(23,.bool false)],(Sx f c l e l.length j' o' key').h⟩)
          | .inr (er,p) => F10.Lp K (k + 1) (Sx f c l e i j o key)=F9.Bad p er):=by
      intro v j' hj' c1 c2
      have st:∃ key',Ky key' ∧ F10.Lp K (k + 1) (Sx f c l e i j o key)=F10.Lp K k (Sx f c l e (i + 1) j' (o ++ [v]) key'):=by
        have ne:¬ (o ++ [v]=[]):=by simp
        by_cases o0:o=[]
        · obtain ⟨key',q1,q2⟩:=c1 o0
          refine ⟨key',q1,?_⟩
          unfold Sx
          rw [if_pos o0,if_neg ne,o0]
          exact aLoop_succ q2
        · obtain ⟨key',q1,q2⟩:=c2 o0
          refine ⟨key',q1,?_⟩
          unfold Sx
          rw [if_neg o0,if_neg ne]
          exact aLoop_succ q2
      obtain ⟨key',q1,q2⟩:=st
      have I:=loop K hK f c l e ll ls r (i + 1) j' (o ++ [v]) key' k hd (by omega) hj' (by rw [List.length_append]; simp; omega) q1 (by omega)
      rw [q2]
      exact I
    have lo:o.length ≤ 1000:=by omega
    cases hy:e.s[j]? with
    | none =>
      have hj:=List.getElem?_eq_none_iff.1 hy
      obtain rfl:j=e.s.length:=by omega
      simp only
      by_cases ho:x.opt=true
      · rw [if_pos ho]
        exact nx (-1) e.s.length (by omega) (fun _ => ⟨_,⟨0,.inr rfl⟩,opt0 K K f c l e i e.s.length x hx (by omega) ls (fun y h => by rw [hy] at h; cases h) ho⟩) (fun _ => optR K K f c l e i e.s.length o key hk x hx (by omega) lo ls (fun y h => by rw [hy] at h; cases h) ho)
      · rw [if_neg ho]
        have ho':x.opt=false:=by simpa using ho
        have F:RC K 7 (-1) (fR [] 7):=fun h => rnil 7 (-1) (by omega) K (by omega) 0 h
        show F10.Lp K (k + 1) (Sx f c l e i e.s.length o key)=F9.Bad [] 7
        unfold Sx
        by_cases o0:o=[]
        · rw [if_pos o0]; exact aLoop_end (short0 K K f c l e i x hx ho' F) (by simp)
        · rw [if_neg o0]; exact aLoop_end (shortR K K f c l e i o key hk x hx ho' F) (by simp)
    | some y =>
      have hj:j < e.s.length:=(List.getElem?_eq_some_iff.1 hy).1
      simp only
      by_cases m:F7.mt x y=true
      · rw [if_pos m]
        exact nx j (j + 1) (by omega) (fun _ => ⟨_,⟨0,.inl rfl⟩,hit0 K K f c l e y i j x hx hy (by omega) ls m⟩) (fun _ => hitR K K f c l e y i j o key hk x hx hy (by omega) lo ls m)
      rw [if_neg m]
      have m':F7.mt x y=false:=by simpa using m
      by_cases ho:x.opt=true
      · rw [if_pos ho]
        exact nx (-1) j (by omega) (fun _ => ⟨_,⟨0,.inr rfl⟩,opt0 K K f c l e i j x hx (by omega) ls (fun y' h => by rw [hy] at h; cases h; exact m') ho⟩) (fun _ => optR K K f c l e i j o key hk x hx (by omega) lo ls (fun y' h => by rw [hy] at h; cases h; exact m') ho)
      · rw [if_neg ho]
        have ho':x.opt=false:=by simpa using ho
        have F:RC K 9 j (fR [(j:Int)] 9):=fun h => rone 9 j (by omega) K (by omega) 0 h
        show F10.Lp K (k + 1) (Sx f c l e i j o key)=F9.Bad [(j:Int)] 9
        unfold Sx
        by_cases o0:o=[]
        · rw [if_pos o0]; exact aLoop_end (wrong0 K K f c l e y i j x hx hy ls m' ho' F) (by simp)
        · rw [if_neg o0]; exact aLoop_end (wrongR K K f c l e y i j o key hk x hx hy ls m' ho' F) (by simp)
def qR:List Int ⊕ (Int × List Int) → AV
  | .inl o => .tup [.sl o.isEmpty (ns o) (if o.isEmpty then some 0 else none),fR [] 0]
  | .inr (e,p) => .tup [.sl true [] (some 0),fR p e]
theorem rsequence (f c) (l:List Fld) (e:El) (t:Int × Bool × Int) (ls:e.s.length ≤ 9223372036854775807) (l2:l.length ≤ 9223372036854775807):Con E (l.length + 60) 36 [e.av,.agg [.int .u8 t.1,.bool t.2.1,.int .u32 t.2.2],.sl f (l.map Fld.av) c] (qR (sq e t l)):=by
  obtain ⟨K,hK⟩:∃ K,l.length + 59=K:=⟨_,rfl⟩
  have eK:l.length + 60=K + 1:=by omega
  rw [eK]
  have f3:=rnil 3 (-1) (by omega) K (by omega) 0
  have f9:=rnil 9 (-1) (by omega) K (by omega) 0
  try simp [fR] at f3
  try simp [fR] at f9
  refine con_of E_fn36 (by simp [AV.pureL,AV.pure,El.av_pure]) (Nat.le_of_ble_eq_true rfl) rfl rfl (g:=[]) ?_
  rw [body_36,c36]
  unfold sq
  by_cases big:256 < l.length
  · have big':(256:Int) < l.length:=by omega
    rw [if_pos big]
    simp [El.av_eq,big,big',f3,qR]
  rw [if_neg big]
  have big':¬ (256:Int) < l.length:=by omega
  by_cases a:e.c=t.1
  case neg => simp [El.av_eq,big,big',a,f9,qR,fitZ]
  by_cases b:e.k=t.2.1
  case neg => simp [El.av_eq,big,big',a,b,f9,qR,fitZ]
  by_cases d:e.n=t.2.2
  case neg => simp [El.av_eq,big,big',a,b,d,f9,qR,fitZ]
  rw [if_neg (fun h => h ⟨a,b,d⟩)]
  have L:=F10.loop K (by omega) f c l e (by omega) ls l 0 0 [] (1,55,0) K rfl (by omega) (by omega) (by simp) ⟨0,.inl rfl⟩ (by omega)
  rw [Sx,if_pos rfl] at L
  cases hr:sqr e.s l 0 [] with
  | inr p =>
    obtain ⟨er,p⟩:=p
    rw [hr] at L
    simp only [qR,fR]
    simp [F10.Lp,b46,lp,lps,c36,firstReg,F9.S0,bx,ec,a,b,d] at L
    simp [El.av_eq,-s_round,big,big',a,b,d,fitZ,L]
  | inl p =>
    obtain ⟨o,j⟩:=p
    have ln:=sqr_len e.s l 0 [] o j (by omega) hr
    simp at ln
    rw [hr] at L
    simp only at L
    obtain ⟨key,hk,L⟩:=L
    unfold Sx at L
    have kj:=ns_keys o
    have pj:=ns_pure o
    have lj:=ns_len o
    simp only
    by_cases o0:o=[]
    · subst o0
      rw [if_pos rfl] at L
      simp [F10.Lp,b46,lp,lps,c36,firstReg,F9.S0,bx,ec,a,b,d] at L
      by_cases hj:j < e.s.length
      · have hj':(j:Int) < e.s.length:=by omega
        have f8:=rone 8 j (by omega) K (by omega) 0
        try simp [fR] at f8
        rw [if_pos hj,qR]
        simp [El.av_eq,-s_round,big,big',a,b,d,fitZ,L,hj,hj',f8]
      · have hj':¬ (j:Int) < e.s.length:=by omega
        rw [if_neg hj,qR]
        simp [El.av_eq,-s_round,big,big',a,b,d,fitZ,L,hj,hj']
    · have e0:o.isEmpty=false:=by cases o with | nil => exact absurd rfl o0 | cons x r => rfl
      rw [if_neg o0] at L
      simp [F10.Lp,b46,lp,lps,c36,firstReg,F9.S0,F9.SR,bx,ec,a,b,d] at L
      by_cases hj:j < e.s.length
      · have hj':(j:Int) < e.s.length:=by omega
        have f8:=rone 8 j (by omega) K (by omega) 0
        try simp [fR] at f8
        rw [if_pos hj,qR]
        obtain ⟨g,rfl | rfl⟩:=hk <;> simp [El.av_eq,-s_round,big,big',a,b,d,fitZ,L,hj,hj',f8,kj]
      · have hj':¬ (j:Int) < e.s.length:=by omega
        rw [if_neg hj,qR]
        obtain ⟨g,rfl | rfl⟩:=hk <;> simp [El.av_eq,-s_round,big,big',a,b,d,fitZ,L,hj,hj',kj,pj,lj,e0,o0]
end F10
end
end
section
open Ab Go TabE Sp E40
namespace Sp
inductive Rr where
  | ok (c:Cr) (n:Nat) (m:Int)
  | bad (a:Int) (e:Int)
mutual
def rd:Nat → List Int → Nat → Nat → Int → Int → Rr
  | 0,_,_,_,_,_ => .bad 0 7
  | f + 1,b,a,e,d,m =>
    if (gt ((b.take e).drop a)).2.2=7 then .bad e 7
    else if (gt ((b.take e).drop a)).2.2 ≠ 0 then .bad a (gt ((b.take e).drop a)).2.2
    else if 16 < d then .bad a 12
    else if m=8192 then .bad a 3
    else if (gl ((b.take e).drop (a + (gt ((b.take e).drop a)).2.1.toNat))).2.2=7 then .bad e 7
    else if (gl ((b.take e).drop (a + (gt ((b.take e).drop a)).2.1.toNat))).2.2 ≠ 0 then .bad ((a + (gt ((b.take e).drop a)).2.1.toNat:Nat):Int) (gl ((b.take e).drop (a + (gt ((b.take e).drop a)).2.1.toNat))).2.2
    else if e < a + (gt ((b.take e).drop a)).2.1.toNat + (gl ((b.take e).drop (a + (gt ((b.take e).drop a)).2.1.toNat))).2.1.toNat + (gl ((b.take e).drop (a + (gt ((b.take e).drop a)).2.1.toNat))).1.toNat then .bad e 7
    else
      let p:=a + (gt ((b.take e).drop a)).2.1.toNat + (gl ((b.take e).drop (a + (gt ((b.take e).drop a)).2.1.toNat))).2.1.toNat
      let q:=p + (gl ((b.take e).drop (a + (gt ((b.take e).drop a)).2.1.toNat))).1.toNat
      if (gt ((b.take e).drop a)).1.2.1=false then .ok (.mk (gt ((b.take e).drop a)).1.1 false (gt ((b.take e).drop a)).1.2.2 ((b.take q).drop p) []) q (m + 1)
      else match rds f b p q (d + 1) (m + 1) with
        | .inl (s,m') => .ok (.mk (gt ((b.take e).drop a)).1.1 true (gt ((b.take e).drop a)).1.2.2 [] s) q m'
        | .inr (x,y) => .bad x y
def rds:Nat → List Int → Nat → Nat → Int → Int → (List Cr × Int) ⊕ (Int × Int)
  | 0,_,_,_,_,_ => .inr (0,7)
  | f + 1,b,a,e,d,m => if e ≤ a then .inl ([],m) else
    match rd f b a e d m with
    | .bad x y => .inr (x,y)
    | .ok c a' m' => match rds f b a' e d m' with
      | .inl (s,m'') => .inl (c :: s,m'')
      | .inr r => .inr r
end
end Sp
end
section
open Ab Go TabE Sp E34 F1 F2 F4 F5 F6 F7 F8
namespace F11
structure Tw (x:El):Prop where
  ok:x.ok
  vld:vld x.core
  nn:E31.Nn x
  fw:E18.Fw 1000 x
theorem rep_B (n:Nat):isB (List.replicate n 0):=fun x hx => by have:=List.eq_of_mem_replicate hx; omega
theorem leaf_Tw (x:Int) (x0:0 ≤ x) (x1:x < 256) (k:(tg x).2.1=false):Tw (leaf x) ∧ dep (leaf x).core=1 ∧ cnt (leaf x).core=1:=by
  have t:=tg_ok x x0
  have hb:isB (lb x) ∧ (lb x).length ≤ 1000:=by
    rcases F3.leaf_cases x x0 x1 with ⟨_,_,e⟩ | ⟨_,_,e⟩ | ⟨_,_,n,_,nb,e⟩
    · have:lb x=[255]:=congrArg El.b e
      rw [this]; exact ⟨fun y hy => by simp at hy; omega,by simp⟩
    · have:lb x=[x / 8]:=congrArg El.b e
      rw [this]; exact ⟨fun y hy => by simp at hy; omega,by simp⟩
    · have:lb x=List.replicate n 0:=congrArg El.b e
      rw [this]; exact ⟨rep_B n,by simp; exact nb⟩
  refine ⟨⟨(El.ok_eq _).2 ⟨by simp only [leaf,El.c]; omega,by simp only [leaf,El.n]; omega,hb.1,by simp only [leaf,El.b]; omega,by simp [leaf,El.s],fun y hy => (by cases hy)⟩,?_,.mk _ (fun h => (by cases h)) (fun h => rfl) fun y hy => (by cases hy),.mk _ hb.2 fun y hy => (by cases hy)⟩,rfl,rfl⟩
  rw [vld_eq]
  refine ⟨by have:=t.1; rw [k] at this; exact this,fun h => (by cases h),fun _ => rfl,trivial⟩
theorem node_Tw (x:Int) (x0:0 ≤ x) (k:(tg x).2.1=true) (s:List El) (hs:∀ y ∈ s,Tw y) (hl:s.length ≤ 1000):Tw (node x s):=by
  have t:=tg_ok x x0
  refine ⟨(El.ok_eq _).2 ⟨by simp only [node,El.c]; omega,by simp only [node,El.n]; omega,isB_nil,by simp [node,El.b],by simp only [node,El.s]; omega,fun y hy => (hs y hy).ok⟩,?_,.mk _ (fun _ => rfl) (fun h => by simpa [node,El.fs,El.s] using h) fun y hy => (hs y hy).nn,.mk _ (by simp [node,El.b]) fun y hy => (hs y hy).fw⟩
  rw [vld_eq]
  exact ⟨by have:=t.1; rw [k] at this; exact this,fun _ => rfl,fun h => (by cases h),vlds_all.2 fun y hy => (hs y hy).vld⟩
theorem bld_ok (cs:List Int) (hb:isB cs):∀ (f i lv:Nat),i ≤ 40 → lv ≤ 5 → (∀ x ∈ (bld f cs i lv).1,Tw x ∧ dep x.core ≤ 6 - lv) ∧ cnts (El.cores (bld f cs i lv).1) + i ≤ (bld f cs i lv).2
  | 0,i,lv,hi,hl => by unfold bld; exact ⟨fun x h => (by cases h),by simp [El.cores,cnts]⟩
  | f + 1,i,lv,hi,hl => by
    unfold bld
    cases hx:cs[i]? with
    | none => exact ⟨fun x h => (by cases h),by simp [El.cores,cnts]⟩
    | some x =>
      simp only
      have xb:=hb x (List.mem_of_getElem? hx)
      by_cases a:40 ≤ i
      · rw [if_pos a]; exact ⟨fun x h => (by cases h),by simp [El.cores,cnts]⟩
      rw [if_neg a]
      by_cases b:x % 16=15
      · rw [if_pos b]; exact ⟨fun x h => (by cases h),by simp [El.cores,cnts]; omega⟩
      rw [if_neg b]
      have r1:=bld_ok cs hb f (i + 1) lv (by omega) hl
      have l1:=bld_le f cs (i + 1) lv (by omega)
      by_cases c:(tg x).2.1=true
      · rw [if_pos c]
        by_cases d:lv=5
        · rw [if_pos d]; exact ⟨r1.1,by have:=r1.2; omega⟩
        · rw [if_neg d]
          have r2:=bld_ok cs hb f (i + 1) (lv + 1) (by omega) (by omega)
          have l2:=bld_le f cs (i + 1) (lv + 1) (by omega)
          have r3:=bld_ok cs hb f (bld f cs (i + 1) (lv + 1)).2 lv l2.2.1 hl
          have l3:=bld_le f cs (bld f cs (i + 1) (lv + 1)).2 lv l2.2.1
          refine ⟨fun y hy => ?_,?_⟩
          · rcases List.mem_cons.1 hy with rfl | hy
            · refine ⟨node_Tw x xb.1 c _ (fun y hy => (r2.1 y hy).1) (by omega),?_⟩
              rw [dep_eq]
              have:=deps_le (m:=5 - lv) (by omega) (bld f cs (i + 1) (lv + 1)).1 fun y hy => by have:=(r2.1 y hy).2; omega
              show deps (El.cores (bld f cs (i + 1) (lv + 1)).1) + 1 ≤ _
              omega
            · exact r3.1 y hy
          · rw [El.cores,cnts,cnt_eq]
            show 1 + cnts (El.cores (bld f cs (i + 1) (lv + 1)).1) + _ + _ ≤ _
            have:=r2.2
            have:=r3.2
            omega
      · rw [if_neg c]
        have lf:=leaf_Tw x xb.1 xb.2 (by simpa using c)
        refine ⟨fun y hy => ?_,?_⟩
        · rcases List.mem_cons.1 hy with rfl | hy
          · exact ⟨lf.1,by rw [lf.2.1]; omega⟩
          · exact r1.1 y hy
        · rw [El.cores,cnts,lf.2.2]
          have:=r1.2
          simp only
          omega
theorem ofT_Tw (cs:List Int) (hb:isB cs):Tw (ofT cs) ∧ dep (ofT cs).core ≤ 5 ∧ cnt (ofT cs).core ≤ 41 ∧ (ofT cs).s.length ≤ 40:=by
  have r:=bld_ok cs hb 41 0 2 (by omega) (by omega)
  have l:=bld_le 41 cs 0 2 (by omega)
  refine ⟨⟨(El.ok_eq _).2 ⟨by simp [ofT,El.c],by simp [ofT,El.n],isB_nil,by simp [ofT,El.b],by simp only [ofT,El.s]; omega,fun y hy => (r.1 y hy).1.ok⟩,?_,.mk _ (fun _ => rfl) (fun h => by simpa [ofT,El.fs,El.s] using h) fun y hy => (r.1 y hy).1.nn,.mk _ (by simp [ofT,El.b]) fun y hy => (r.1 y hy).1.fw⟩,?_,?_,by simp only [ofT,El.s]; omega⟩
  · rw [vld_eq]
    exact ⟨rfl,fun _ => rfl,fun h => (by cases h),vlds_all.2 fun y hy => (r.1 y hy).1.vld⟩
  · rw [dep_eq]
    have:=deps_le (m:=4) (by omega) (ofT cs).s fun y hy => by have:=(r.1 y hy).2; omega
    omega
  · rw [cnt_eq]
    have:=r.2
    show 1 + cnts (El.cores (bld 41 cs 0 2).1) ≤ _
    omega
def ck (s:List El):List Fld → List Int → Nat → Option Nat
  | [],[],j => some j
  | x :: r,v :: o,j => if v = -1 ∧ x.opt=true then ck s r o j else match s[j]? with
    | some y => if v=j ∧ F7.mt x y=true then ck s r o (j + 1) else none
    | none => none
  | _,_,_ => none
theorem sqr_ck (s:List El):∀ (r:List Fld) (j:Nat) (o o':List Int) (j':Nat),sqr s r j o=.inl (o',j') → ∃ t,o'=o ++ t ∧ ck s r t j=some j'
  | [],j,o,o',j',h => by unfold sqr at h; cases h; exact ⟨[],by simp,rfl⟩
  | x :: r,j,o,o',j',h => by
    unfold sqr at h
    cases hy:s[j]? with
    | none =>
      rw [hy] at h
      simp only at h
      split at h
      · rename_i ho
        obtain ⟨t,e,k⟩:=sqr_ck s r j _ o' j' h
        exact ⟨-1 :: t,by rw [e]; simp,by unfold ck; rw [if_pos ⟨rfl,ho⟩]; exact k⟩
      · cases h
    | some y =>
      rw [hy] at h
      simp only at h
      split at h
      · rename_i m
        obtain ⟨t,e,k⟩:=sqr_ck s r (j + 1) _ o' j' h
        exact ⟨(j:Int) :: t,by rw [e]; simp,by unfold ck; rw [if_neg (by omega),hy]; simp only; rw [if_pos ⟨trivial,m⟩]; exact k⟩
      · split at h
        · rename_i ho
          obtain ⟨t,e,k⟩:=sqr_ck s r j _ o' j' h
          exact ⟨-1 :: t,by rw [e]; simp,by unfold ck; rw [if_pos ⟨rfl,ho⟩]; exact k⟩
        · cases h
theorem sqr_bad (s:List El):∀ (r:List Fld) (j:Nat) (o:List Int) (e:Int) (p:List Int),sqr s r j o=.inr (e,p) → e ≠ 0 ∧ p.length < 2
  | [],j,o,e,p,h => by unfold sqr at h; cases h
  | x :: r,j,o,e,p,h => by
    unfold sqr at h
    cases hy:s[j]? with
    | none =>
      rw [hy] at h
      simp only at h
      split at h
      · exact sqr_bad s r j _ e p h
      · cases h; simp
    | some y =>
      rw [hy] at h
      simp only at h
      split at h
      · exact sqr_bad s r (j + 1) _ e p h
      · split at h
        · exact sqr_bad s r j _ e p h
        · cases h; simp
theorem sq_bad {e:El} {t:Int × Bool × Int} {l:List Fld} {er:Int} {p:List Int} (h:sq e t l=.inr (er,p)):er ≠ 0 ∧ p.length < 2:=by
  unfold sq at h
  split at h
  · cases h; simp
  split at h
  · cases h; simp
  split at h
  · rename_i q hq; cases h; exact sqr_bad _ _ _ _ _ _ hq
  · split at h
    · cases h; simp
    · cases h
theorem sq_ok {e:El} {t:Int × Bool × Int} {l:List Fld} {o:List Int} (h:sq e t l=.inl o):o.length=l.length ∧ ck e.s l o 0=some e.s.length ∧ l.length ≤ 256 ∧ e.c=t.1 ∧ e.k=t.2.1 ∧ e.n=t.2.2:=by
  unfold sq at h
  split at h
  · cases h
  rename_i big
  split at h
  · cases h
  rename_i tg
  split at h
  · cases h
  · rename_i o' j hq
    split at h
    · cases h
    · rename_i hj
      cases h
      have ln:=sqr_len e.s l 0 [] o j (by omega) hq
      obtain ⟨t,e1,k⟩:=sqr_ck e.s l 0 [] o j hq
      simp at e1 ln
      subst e1
      have tg':=Classical.not_not.1 tg
      exact ⟨ln.1,by rw [k]; congr 1; omega,by omega,tg'⟩
end F11
end
section
open Ab Go
namespace OH
def step (ds:List Int) (v:Int) (s:Bool) (b:Int):Int ⊕ (List Int × Int × Bool) :=
  if s=true ∧ ds.length=15 then .inl 3
  else if s=true ∧ b=128 then .inl 11
  else if 4294967295 < 128 * v + b % 128 then .inl 3
  else if b < 128 then .inr (ds ++ [128 * v + b % 128],0,true)
  else .inr (ds,128 * v + b % 128,false)
def run:List Int → List Int → Int → Bool → Int ⊕ (List Int × Int × Bool)
  | [],ds,v,s => .inr (ds,v,s)
  | b :: r,ds,v,s => match step ds v s b with
    | .inl e => .inl e
    | .inr (ds',v',s') => run r ds' v' s'
def arcs:List Int → List Int
  | [] => List.replicate 16 0
  | d :: r => min (d / 40) 2 :: (d - 40 * min (d / 40) 2) :: (r ++ List.replicate (14 - r.length) 0)
def get (bs:List Int):Int × List Int × Int :=
  if bs=[] then (0,List.replicate 16 0,7) else
  match run bs [] 0 true with
  | .inl e => (0,List.replicate 16 0,e)
  | .inr (ds,_,s) => if s=true then ((ds.length:Int) + 1,arcs ds,0) else (0,List.replicate 16 0,7)
def val:List Int → Int → Int
  | [],v => v
  | b :: r,v => val r (128 * v + b % 128)
theorem grp_of (p:List Int) (b:Int) (hp:∀ x ∈ p,128 ≤ x ∧ x < 256) (h0:∀ x,p.head? = some x → x ≠ 128) (b0:0 ≤ b) (b1:b < 128) (hv:val (p ++ [b]) 0 ≤ 4294967295):OG.grp (val (p ++ [b]) 0)=p ++ [b]:=by
  match p with
  | [] =>
    simp only [List.nil_append,val] at hv ⊢
    unfold OG.grp OG.top OG.oct
    simp
    rw [if_pos (by omega)]
    simp
    omega
  | [x] =>
    have q1:=hp x (by simp); have z:=h0 x rfl
    simp only [List.cons_append,List.nil_append,val] at hv ⊢
    unfold OG.grp OG.top OG.oct
    rw [if_neg (by omega),if_pos (by omega)]
    simp
    omega
  | [x,y] =>
    have q1:=hp x (by simp); have q2:=hp y (by simp); have z:=h0 x rfl
    simp only [List.cons_append,List.nil_append,val] at hv ⊢
    unfold OG.grp OG.top OG.oct
    rw [if_neg (by omega),if_neg (by omega),if_pos (by omega)]
    simp
    omega
  | [x,y,u] =>
    have q1:=hp x (by simp); have q2:=hp y (by simp); have q3:=hp u (by simp); have z:=h0 x rfl
    simp only [List.cons_append,List.nil_append,val] at hv ⊢
    unfold OG.grp OG.top OG.oct
    rw [if_neg (by omega),if_neg (by omega),if_neg (by omega),if_pos (by omega)]
    simp
    omega
  | [x,y,u,t] =>
    have q1:=hp x (by simp); have q2:=hp y (by simp); have q3:=hp u (by simp); have q4:=hp t (by simp); have z:=h0 x rfl
    simp only [List.cons_append,List.nil_append,val] at hv ⊢
    unfold OG.grp OG.top OG.oct
    rw [if_neg (by omega),if_neg (by omega),if_neg (by omega),if_neg (by omega)]
    simp
    omega
  | x :: y :: u :: t :: s :: r =>
    exfalso
    have q1:=hp x (by simp); have z:=h0 x rfl
    have mono:∀ (l:List Int) (v:Int),0 ≤ v → v ≤ val l v:=by
      intro l
      induction l with
      | nil => intro v _; exact Int.le_refl _
      | cons a l ih => intro v hv0; unfold val; have:=ih (128 * v + a % 128) (by omega); omega
    simp only [List.cons_append,val] at hv
    have q2:=hp y (by simp); have q3:=hp u (by simp); have q4:=hp t (by simp); have q5:=hp s (by simp)
    cases r with
    | nil =>
      simp only [List.nil_append,val] at hv
      omega
    | cons a r =>
      have:=mono (a :: r ++ [b]) (128 * (128 * (128 * (128 * (128 * 0 + x % 128) + y % 128) + u % 128) + t % 128) + s % 128) (by omega)
      simp only [List.cons_append] at this
      unfold val at this
      have m2:=mono (r ++ [b]) (128 * (128 * (128 * (128 * (128 * (128 * 0 + x % 128) + y % 128) + u % 128) + t % 128) + s % 128) + a % 128) (by omega)
      simp only [List.cons_append,val] at hv
      omega
theorem val_snoc:∀ (p:List Int) (b v:Int),val (p ++ [b]) v=128 * val p v + b % 128
  | [],b,v => rfl
  | a :: p,b,v => by rw [List.cons_append]; unfold val; rw [val_snoc p b]
theorem val_nn:∀ (p:List Int) (v:Int),0 ≤ v → 0 ≤ val p v
  | [],v,h => h
  | a :: p,v,h => by unfold val; exact val_nn p _ (by omega)
theorem run_ok:∀ (bs ds:List Int) (v:Int) (s:Bool) (p:List Int) (ds':List Int) (v':Int) (s':Bool),(∀ b ∈ bs,0 ≤ b ∧ b < 256) → (∀ d ∈ ds,0 ≤ d ∧ d ≤ 4294967295) → ds.length ≤ 15 → (p ≠ [] → ds.length < 15) →
    (∀ x ∈ p,128 ≤ x ∧ x < 256) → (∀ x,p.head? = some x → x ≠ 128) → v=val p 0 → (s=true ↔ p=[]) → run bs ds v s=.inr (ds',v',s') →
    ∃ p',ds.flatMap OG.grp ++ p ++ bs=ds'.flatMap OG.grp ++ p' ∧ (s'=true ↔ p'=[]) ∧ (∀ d ∈ ds',0 ≤ d ∧ d ≤ 4294967295) ∧ ds'.length ≤ 15
  | [],ds,v,s,p,ds',v',s',_,hd,hl,_,_,_,_,hs,h => by
    simp only [run] at h
    cases h
    exact ⟨p,by simp,hs,hd,hl⟩
  | b :: r,ds,v,s,p,ds',v',s',hb,hd,hl,hpl,hp,h0,hv,hs,h => by
    unfold run step at h
    have b0:=hb b (by simp)
    split at h
    case h_1 => cases h
    rename_i e1 ds1 v1 s1 e2
    split at e2
    · cases e2
    split at e2
    · cases e2
    split at e2
    · cases e2
    rename_i n1 n2 n3
    have hlt:ds.length < 15:=by
      by_cases e:p=[]
      · have:=hs.2 e
        have:¬ ds.length=15:=fun q => n1 ⟨this,q⟩
        omega
      · exact hpl e
    have hvs:val (p ++ [b]) 0=128 * v + b % 128:=by rw [val_snoc,hv]
    have hh:∀ x,(p ++ [b]).head? = some x → x ≠ 128:=by
      intro x hx
      cases p with
      | nil =>
        simp at hx
        subst hx
        exact fun q => n2 ⟨hs.2 rfl,q⟩
      | cons a p => exact h0 x (by simpa using hx)
    split at e2
    · rename_i hlow
      cases e2
      have hg:=grp_of p b hp h0 b0.1 hlow (by rw [hvs]; omega)
      rw [hvs] at hg
      have hnn:0 ≤ 128 * v + b % 128:=by rw [← hvs]; exact val_nn _ _ (Int.le_refl _)
      obtain ⟨p',q1,q2⟩:=run_ok r _ 0 true [] ds' v' s' (fun x hx => hb x (by simp [hx])) (fun d hd' => by
        rcases List.mem_append.1 hd' with hd' | hd'
        · exact hd d hd'
        · simp at hd'; subst hd'; omega) (by simp; omega) (fun e => absurd rfl e) (by simp) (by simp) rfl (by simp) h
      refine ⟨p',?_,q2⟩
      rw [← q1,List.flatMap_append,List.flatMap_cons,List.flatMap_nil,hg]
      simp
    · rename_i hhigh
      cases e2
      obtain ⟨p',q1,q2⟩:=run_ok r ds _ false (p ++ [b]) ds' v' s' (fun x hx => hb x (by simp [hx])) hd hl (fun _ => hlt) (fun x hx => by
        rcases List.mem_append.1 hx with hx | hx
        · exact hp x hx
        · simp at hx; subst hx; omega) hh hvs.symm (by simp) h
      exact ⟨p',by rw [← q1]; simp,q2⟩
theorem get_ok (bs:List Int) (hb:∀ b ∈ bs,0 ≤ b ∧ b < 256) (h:(get bs).2.2=0):OP.okB (get bs).1 (get bs).2.1=true ∧ OP.octs (get bs).1 (get bs).2.1=bs ∧ (get bs).2.1.length=16 ∧ (∀ x ∈ (get bs).2.1,0 ≤ x ∧ x < 4294967296) ∧ 2 ≤ (get bs).1 ∧ (get bs).1 ≤ 16:=by
  unfold get at h ⊢
  split
  · rename_i e; rw [if_pos e] at h; cases h
  rename_i hne
  rw [if_neg hne] at h
  have herr:∀ (bs ds:List Int) (v:Int) (s:Bool) (e:Int),run bs ds v s=.inl e → e ≠ 0:=by
    intro bs
    induction bs with
    | nil => intro ds v s e h; cases h
    | cons b r ih =>
      intro ds v s e h
      unfold run at h
      split at h
      · rename_i e1 e2
        cases h
        unfold step at e2
        split at e2
        · cases e2; decide
        split at e2
        · cases e2; decide
        split at e2
        · cases e2; decide
        split at e2 <;> cases e2
      · exact ih _ _ _ _ h
  cases hr:run bs [] 0 true with
  | inl e =>
    rw [hr] at h
    exact absurd h (herr _ _ _ _ _ hr)
  | inr q =>
    obtain ⟨ds,v,s⟩:=q
    rw [hr] at h
    simp only at h ⊢
    cases s with
    | false => cases h
    | true =>
      obtain ⟨p',q1,q2,q3,q4⟩:=run_ok bs [] 0 true [] ds v true hb (by simp) (by simp) (by simp) (by simp) (by simp) rfl (by simp) hr
      have hp':=q2.1 rfl
      subst hp'
      simp at q1
      rw [if_pos rfl]
      cases ds with
      | nil => exact absurd q1 hne
      | cons d r =>
        have d0:=q3 d (by simp)
        simp only [List.length_cons] at q4 ⊢
        have et:((((r.length + 1:Nat):Int) + 1).toNat)=r.length + 2:=by omega
        refine ⟨?_,?_,?_,?_,by omega,by omega⟩
        · unfold OP.okB arcs
          simp only [Bool.and_eq_true,decide_eq_true_eq,et]
          refine ⟨by omega,?_⟩
          rw [List.drop_succ_cons,List.drop_succ_cons,List.drop_left]
          simp
        · unfold OP.octs OP.subs arcs
          simp only [et]
          rw [show r.length + 2 - 2=r.length from rfl,List.take_left,show d - 40 * min (d / 40) 2 + 40 * min (d / 40) 2=d from by omega]
          exact q1.symm
        · unfold arcs
          simp
          omega
        · unfold arcs
          intro x hx
          simp only [List.mem_cons,List.mem_append,List.mem_replicate] at hx
          rcases hx with rfl | rfl | hx | ⟨_,rfl⟩
          · omega
          · omega
          · have:=q3 x (by simp [hx]); omega
          · omega
end OH
end
section
open Ab Go TabE Sp E34 F1 Rw F5 F6 F7 F8
namespace AP
abbrev tS:Int × Bool × Int:=(0,true,16)
abbrev lA:List Fld:=[⟨0,false,6,false,false⟩,⟨0,false,0,true,true⟩]
theorem mt_eq (x:Fld) (y:El) (h:x.any=false):F7.mt x y=true ↔ x.c=y.c ∧ x.k=y.k ∧ x.n=y.n:=by
  unfold F7.mt; rw [h]; simp
theorem mt_any (x:Fld) (y:El) (h:x.any=true):F7.mt x y=true:=by unfold F7.mt; rw [h]; rfl
theorem casesA (e:El) (o:List Int) (h:sq e tS lA=.inl o):(e.c=0 ∧ e.k=true ∧ e.n=16) ∧ ((∃ x,e.s=[x] ∧ o=[0,-1] ∧ x.c=0 ∧ x.k=false ∧ x.n=6) ∨ ∃ x y,e.s=[x,y] ∧ o=[0,1] ∧ x.c=0 ∧ x.k=false ∧ x.n=6):=by
  obtain ⟨_,_,_,t1,t2,t3⟩:=F11.sq_ok h
  refine ⟨⟨t1,t2,t3⟩,?_⟩
  unfold sq at h
  rw [if_neg (by simp),if_neg (by simp [t1,t2,t3])] at h
  have A:=fun y => mt_eq ⟨0,false,6,false,false⟩ y rfl
  have B:=fun y => mt_any ⟨0,false,0,true,true⟩ y rfl
  rcases hs:e.s with _ | ⟨x,_ | ⟨y,_ | ⟨z,r⟩⟩⟩
  · rw [hs] at h
    simp [sqr] at h
  · rw [hs] at h
    by_cases a:F7.mt ⟨0,false,6,false,false⟩ x=true
    · simp [sqr,a] at h
      have q:=(A x).1 a
      exact .inl ⟨x,rfl,h.symm,q.1.symm,q.2.1.symm,q.2.2.symm⟩
    · simp [sqr,a] at h
  · rw [hs] at h
    by_cases a:F7.mt ⟨0,false,6,false,false⟩ x=true
    · simp [sqr,a,B] at h
      have q:=(A x).1 a
      exact .inr ⟨x,y,rfl,h.symm,q.1.symm,q.2.1.symm,q.2.2.symm⟩
    · simp [sqr,a] at h
  · rw [hs] at h
    by_cases a:F7.mt ⟨0,false,6,false,false⟩ x=true
    · simp [sqr,a,B] at h
    · simp [sqr,a] at h
theorem l16 (xs:List Int) (h:xs.length=16):∃ x0 x1 x2 x3 x4 x5 x6 x7 x8 x9 x10 x11 x12 x13 x14 x15,xs=[x0,x1,x2,x3,x4,x5,x6,x7,x8,x9,x10,x11,x12,x13,x14,x15]:=by
  match xs,h with
  | [x0,x1,x2,x3,x4,x5,x6,x7,x8,x9,x10,x11,x12,x13,x14,x15],_ => exact ⟨_,_,_,_,_,_,_,_,_,_,_,_,_,_,_,_,rfl⟩
abbrev lf (b:List Int):El:=.mk 0 false 6 false b (some b.length) true [] (some 0)
abbrev tp (s:List El) (n:Nat):El:=.mk 0 true 16 true [] (some 0) false s (some n)
theorem lf_core (x:El) (b:List Int) (hv:vld x.core) (h:x.c=0 ∧ x.k=false ∧ x.n=6) (hb:b=x.b):(lf b).core=x.core:=by
  rw [vld_eq] at hv
  have s0:=hv.2.2.1 h.2.1
  rw [El.core_eq,El.core_eq x,h.1,h.2.1,h.2.2,s0,hb]
  rfl
theorem lf_ok (b:List Int) (hb:isB b) (hl:b.length ≤ 9223372036854775807):(lf b).ok:=by
  rw [El.ok_eq]
  exact ⟨by simp [El.c],by simp [El.n],hb,hl,by simp [El.s],fun y hy => by cases hy⟩
theorem tp_ok (s:List El) (n:Nat) (h:∀ x ∈ s,x.ok) (hl:s.length ≤ 2):(tp s n).ok:=by
  rw [El.ok_eq]
  exact ⟨by simp [El.c],by simp [El.n],by simp [El.b,isB],by simp [El.b],by simp only [El.s]; omega,h⟩
theorem core_of (e:El) (hv:vld e.core) (ht:e.c=0 ∧ e.k=true ∧ e.n=16) (s:List El) (n:Nat) (h:El.cores s=El.cores e.s):(tp s n).core=e.core:=by
  rw [vld_eq] at hv
  have b0:=hv.2.1 ht.2.1
  rw [El.core_eq,El.core_eq e,ht.1,ht.2.1,ht.2.2,b0,← h]; rfl
end AP
end
section
open Ab Go TabE Sp E34 F1 F4 F5
namespace F20
abbrev zc:List AV:=[.sl true [] (some 0),.int .i64 0]
end F20
end
section
open Ab Go TabE
attribute [local simp ↓] s_seq s_reg s_regd s_cond s_block s_cons s_consG s_regD
attribute [local simp] s_nil s_loop s_round s_lpn s_lpe s_lpr firstReg s_gt s_gf s_wb s_wu s_val s_valN s_skip s_calls s_callP s_cax lookR flatR pureKs s_ret s_rgx s_sqn s_sqr s_sqe s_cdb s_bkn s_bkr s_bke s_exit s_ret' s_skip' s_finr s_finn s_fin1 s_fix s_clean s_gc0 o_tmp o_int o_bool o_nil o_str o_fn o_nil' l_hit l_miss l_nil ol_nil ol_cons ol_some x_move x_assign x_pick pk_t pk_f x_bin bn_s x_un x_extract x_callF cl_no x_callB x_callBF frzV x_conv cvx convA frame0 binA intOp resL resA results1 sealLW AV.pure AV.pureL keepT x_alloc x_box bxx x_build bdx x_buildSlice bsx x_buildSliceF bsf x_load ldx x_store stx x_slice slx x_fieldAddr x_field x_index ixx x_indexAddr iax x_makeSlice msx x_makeSliceF msf x_nilCheck newK genOf setK lookK fillA writeL writeC readC conts TyI.mk1 sliceA boundsA boundsB fitsA numA indexAddrA fieldAddrA partA fieldA indexA appendA copyA builtinA AV.cells chunk gcH reach keysT keepK inKs AV.keys AV.keysL Ty.isAgg eq1 eqL convA.go ltI w_u8 w_u32 w_u64 w_i64 w_fdiv w_tdiv w_tmod IntKind.bits unA sc_int sc_bool sc_str sc_sl sc_ref sc_ptr sc_pel sc_nilp sc_fn sc_nilf sc_if sc_nili sc_agg sc_tup sc_mem bs_pure bs_kl bs_length bs_cells bs_all sl_row sealRow sealY sl_int sl_bool sl_str sl_sl sl_nilp sl_nilf sl_nili sl_pel sl_agg sl_tup sl_fn sl_if nat_1 bs_cons bs_nil i_beq i_bne x_mkF x_mkI x_tassert x_panic s_pan s_sqp s_bkp s_finp s_fixp s_lpp s_rgp s_retp s_site s_stxN s_stxO x_callT clx El.avs_len s_dyn0 s_rgy barOf dynChk footL dynOK disjK keysOp opVals Op.operands
section
open Ab Go TabE Sp E34 F1 F5
namespace FO
theorem sealM_pure:∀ (m:List Bool) (args:List AV) (h:Heap),AV.pureL args=true → sealM (sealA 20) m h args=some (args,h)
  | [],[],h,_ => rfl
  | [],x :: r,h,hp => by
    unfold sealM
    exact sealL_of_pure 19 _ h hp
  | true :: m,[],h,_ => rfl
  | false :: m,[],h,_ => rfl
  | b :: m,x :: r,h,hp => by
    have hp':x.pure=true ∧ AV.pureL r=true:=by simpa [AV.pureL] using hp
    have ih:=sealM_pure m r h hp'.2
    cases b
    · unfold sealM
      have:sealA 20 h x=some (x,h):=by unfold sealA; rw [if_pos hp'.1]
      rw [this]
      simp only [ih]
    · unfold sealM
      rw [ih]
theorem setK_same:∀ (h:Heap) (key:Key) (o:AObj),lookK h key=some o → setK h key o=h
  | [],key,o,h => by simp [lookK] at h
  | (k,x) :: r,key,o,h => by
    unfold lookK at h
    unfold setK
    by_cases e:k=key
    · rw [if_pos e] at h ⊢; cases h; rw [e]
    · rw [if_neg e] at h ⊢; rw [setK_same r key o h]
theorem op_fresh {run:RunF} {slot:Nat} {g:FuncId} {m:List Bool} {args:List AV} {h hf:Heap} {v:AV} (ks:List Key) (hp:AV.pureL args=true) (hr:run g args []=some (.ret v,hf))
    (e7:dd (reach hf 3 (AV.keysL [v]))=ks) (cl:closedH hf ks ks=true) (nk:∀ k ∈ ks,k.1 ≠ 0) (vk:(AV.keysL [v]).all (inKs ks)=true) :
    opened m false run slot g args h=some (.ret (AV.rn (outK [] ks slot (genOf h 1 slot)) v),putAll hf (outK [] ks slot (genOf h 1 slot)) ks h):=by
  unfold opened
  rw [sealM_pure m args h hp]
  simp only
  have e0:AV.keysL args=[]:=AV.keysL_pure _ hp
  rw [e0]
  have e2:dd (reach h 3 [])=[]:=rfl
  rw [e2]
  unfold lendA
  have e3:lendH h (inK []) []=some []:=rfl
  rw [e3]
  simp only [e0]
  rw [if_pos ⟨by rfl,by rfl⟩]
  have e5:AV.rnL (inK []) args=args:=rnL_pure args hp
  rw [e5,hr]
  have e9:lentKs 0=[]:=rfl
  simp only [backR,Bool.false_eq_true,if_false,backV,Ab.back,List.length_nil,e9,List.nil_append,e7,backA]
  have ok:ks.all (okK 0)=true:=List.all_eq_true.2 fun k hk => by simp [okK,nk k hk]
  have fl:ks.filter (fun k => !decide (k.1=0))=ks:=List.filter_eq_self.2 fun k hk => by simp [nk k hk]
  rw [if_pos ⟨cl,ok,vk,by rfl⟩]
  simp only [fl,AV.rnL]
abbrev fr (x:Int):AObj:=⟨[.int .i64 x],true,true,false,1,false⟩
end FO
end
end
section
open Ab Go TabE
attribute [local simp ↓] s_seq s_reg s_regd s_cond s_block s_cons s_consG
attribute [local simp] s_nil s_loop s_round s_lpn s_lpe s_lpr firstReg s_gt s_gf s_wb s_wu s_val s_valN s_skip s_calls s_callP s_cax lookR flatR pureKs s_ret s_rgx s_sqn s_sqr s_sqe s_cdb s_bkn s_bkr s_bke s_exit s_ret' s_skip' s_finr s_finn s_fin1 s_fix s_clean s_gc0 o_tmp o_int o_bool o_nil o_str o_fn o_nil' l_hit l_miss l_nil ol_nil ol_cons ol_some x_move x_assign x_pick pk_t pk_f x_bin bn_s x_un x_extract x_callF cl_no x_callB x_callBF frzV x_conv cvx convA frame0 binA intOp resL resA results1 sealLW AV.pure AV.pureL keepT x_alloc x_box bxx x_build bdx x_buildSlice bsx x_buildSliceF bsf x_load ldx x_store stx x_slice slx x_fieldAddr x_field x_index ixx x_indexAddr iax x_makeSlice msx x_makeSliceF msf x_nilCheck newK genOf setK lookK fillA writeL writeC readC conts TyI.mk1 sliceA boundsA boundsB fitsA numA indexAddrA fieldAddrA partA fieldA indexA appendA copyA builtinA AV.cells chunk gcH reach keysT keepK inKs AV.keys AV.keysL Ty.isAgg eq1 eqL convA.go ltI w_u8 w_u32 w_u64 w_i64 w_fdiv w_tdiv w_tmod IntKind.bits unA sc_int sc_bool sc_str sc_sl sc_ref sc_ptr sc_pel sc_nilp sc_fn sc_nilf sc_if sc_nili sc_agg sc_tup sc_mem bs_pure bs_kl bs_length bs_cells bs_all sl_row sealRow sealY sl_int sl_bool sl_str sl_sl sl_nilp sl_nilf sl_nili sl_pel sl_agg sl_tup sl_fn sl_if nat_1 bs_cons bs_nil i_beq i_bne x_mkF x_mkI x_tassert x_panic s_pan s_sqp s_bkp s_finp s_fixp s_lpp s_rgp s_retp s_site s_stxN s_stxO x_callT clx El.avs_len
section
open Ab Go TabE Sp E34 F1 F4 F5
namespace F17
theorem dig1 (v:Int) (h0:0 ≤ v) (h1:v < 128):Con E 20 112 [.int .u32 v] (.sl false [.int .u8 (TG.oct v 0)] (some 1)):=by
  refine con_of E_fn112 rfl (Nat.le_of_ble_eq_true rfl) rfl rfl (g:=[]) ?_
  rw [body_112,c112]
  have q1:v.tmod 128=v:=by rw [Int.tmod_eq_emod_of_nonneg h0]; omega
  have q2:v.tdiv 128=0:=by rw [Int.tdiv_eq_ediv_of_nonneg h0]; omega
  have q3:v % 256=v:=by omega
  have o:TG.oct v 0=v:=by unfold TG.oct; simp; omega
  simp [q1,q2,q3,o,w_i64]
theorem dig2 (v:Int) (h0:128 ≤ v) (h1:v < 16384):Con E 20 112 [.int .u32 v] (.sl false [.int .u8 (TG.oct v 1),.int .u8 (TG.oct v 0)] none):=by
  refine con_of E_fn112 rfl (Nat.le_of_ble_eq_true rfl) rfl rfl (g:=[]) ?_
  rw [body_112,c112]
  have q1:v.tmod 128=v % 128:=Int.tmod_eq_emod_of_nonneg (by omega)
  have q2:v.tdiv 128=v / 128:=Int.tdiv_eq_ediv_of_nonneg (by omega)
  have q3:v % 128 % 256=v % 128:=by omega
  have a1:0 < v / 128:=by omega
  have m1:v / 128 % 4294967296=v / 128:=by omega
  have q4:(v / 128).tmod 128=v / 128:=by rw [Int.tmod_eq_emod_of_nonneg (by omega)]; omega
  have q5:(v / 128).tdiv 128=0:=by rw [Int.tdiv_eq_ediv_of_nonneg (by omega)]; omega
  have m2:(128 + v / 128) % 4294967296=128 + v / 128:=by omega
  have q6:(128 + v / 128) % 256=128 + v / 128:=by omega
  have o0:TG.oct v 0=v % 128:=by unfold TG.oct; simp
  have o1:TG.oct v 1=128 + v / 128:=by unfold TG.oct; simp; omega
  simp [q1,q2,q3,a1,m1,m2,q4,q5,q6,o0,o1,w_i64]
theorem dig3 (v:Int) (h0:16384 ≤ v) (h1:v < 2097152):Con E 20 112 [.int .u32 v] (.sl false [.int .u8 (TG.oct v 2),.int .u8 (TG.oct v 1),.int .u8 (TG.oct v 0)] none):=by
  refine con_of E_fn112 rfl (Nat.le_of_ble_eq_true rfl) rfl rfl (g:=[]) ?_
  rw [body_112,c112]
  have q1:v.tmod 128=v % 128:=Int.tmod_eq_emod_of_nonneg (by omega)
  have q2:v.tdiv 128=v / 128:=Int.tdiv_eq_ediv_of_nonneg (by omega)
  have q3:v % 128 % 256=v % 128:=by omega
  have a1:0 < v / 128:=by omega
  have m1:v / 128 % 4294967296=v / 128:=by omega
  have q4:(v / 128).tmod 128=v / 128 % 128:=Int.tmod_eq_emod_of_nonneg (by omega)
  have q5:(v / 128).tdiv 128=v / 16384:=by rw [Int.tdiv_eq_ediv_of_nonneg (by omega)]; omega
  have a2:0 < v / 16384:=by omega
  have m3:v / 16384 % 4294967296=v / 16384:=by omega
  have q7:(v / 16384).tmod 128=v / 16384:=by rw [Int.tmod_eq_emod_of_nonneg (by omega)]; omega
  have q8:(v / 16384).tdiv 128=0:=by rw [Int.tdiv_eq_ediv_of_nonneg (by omega)]; omega
  have m2:(128 + v / 128 % 128) % 4294967296=128 + v / 128 % 128:=by omega
  have m4:(128 + v / 16384) % 4294967296=128 + v / 16384:=by omega
  have q6:(128 + v / 128 % 128) % 256=128 + v / 128 % 128:=by omega
  have q9:(128 + v / 16384) % 256=128 + v / 16384:=by omega
  have o0:TG.oct v 0=v % 128:=by unfold TG.oct; simp
  have o1:TG.oct v 1=128 + v / 128 % 128:=by unfold TG.oct; simp; omega
  have o2:TG.oct v 2=128 + v / 16384:=by unfold TG.oct; simp; omega
  simp [q1,q2,q3,a1,a2,m1,m2,m3,m4,q4,q5,q7,q8,q6,q9,o0,o1,o2,w_i64]
theorem dig4 (v:Int) (h0:2097152 ≤ v) (h1:v < 268435456):Con E 20 112 [.int .u32 v] (.sl false [.int .u8 (TG.oct v 3),.int .u8 (TG.oct v 2),.int .u8 (TG.oct v 1),.int .u8 (TG.oct v 0)] none):=by
  refine con_of E_fn112 rfl (Nat.le_of_ble_eq_true rfl) rfl rfl (g:=[]) ?_
  rw [body_112,c112]
  have q1:v.tmod 128=v % 128:=Int.tmod_eq_emod_of_nonneg (by omega)
  have q2:v.tdiv 128=v / 128:=Int.tdiv_eq_ediv_of_nonneg (by omega)
  have q3:v % 128 % 256=v % 128:=by omega
  have a1:0 < v / 128:=by omega
  have m1:v / 128 % 4294967296=v / 128:=by omega
  have q4:(v / 128).tmod 128=v / 128 % 128:=Int.tmod_eq_emod_of_nonneg (by omega)
  have q5:(v / 128).tdiv 128=v / 16384:=by rw [Int.tdiv_eq_ediv_of_nonneg (by omega)]; omega
  have a2:0 < v / 16384:=by omega
  have m3:v / 16384 % 4294967296=v / 16384:=by omega
  have q7:(v / 16384).tmod 128=v / 16384 % 128:=Int.tmod_eq_emod_of_nonneg (by omega)
  have q8:(v / 16384).tdiv 128=v / 2097152:=by rw [Int.tdiv_eq_ediv_of_nonneg (by omega)]; omega
  have a3:0 < v / 2097152:=by omega
  have m5:v / 2097152 % 4294967296=v / 2097152:=by omega
  have p7:(v / 2097152).tmod 128=v / 2097152:=by rw [Int.tmod_eq_emod_of_nonneg (by omega)]; omega
  have p8:(v / 2097152).tdiv 128=0:=by rw [Int.tdiv_eq_ediv_of_nonneg (by omega)]; omega
  have m2:(128 + v / 128 % 128) % 4294967296=128 + v / 128 % 128:=by omega
  have m4:(128 + v / 16384 % 128) % 4294967296=128 + v / 16384 % 128:=by omega
  have m6:(128 + v / 2097152) % 4294967296=128 + v / 2097152:=by omega
  have q6:(128 + v / 128 % 128) % 256=128 + v / 128 % 128:=by omega
  have q9:(128 + v / 16384 % 128) % 256=128 + v / 16384 % 128:=by omega
  have p9:(128 + v / 2097152) % 256=128 + v / 2097152:=by omega
  have o0:TG.oct v 0=v % 128:=by unfold TG.oct; simp
  have o1:TG.oct v 1=128 + v / 128 % 128:=by unfold TG.oct; simp; omega
  have o2:TG.oct v 2=128 + v / 16384 % 128:=by unfold TG.oct; simp; omega
  have o3:TG.oct v 3=128 + v / 2097152:=by unfold TG.oct; simp; omega
  simp [q1,q2,q3,a1,a2,a3,m1,m2,m3,m4,m5,m6,q4,q5,q7,q8,q6,q9,p7,p8,p9,o0,o1,o2,o3,w_i64]
end F17
end
end
section
open Ab Go TabE Sp E12 E18 E26 E34 E36 F1 F4 F5 F20
namespace F23
structure Gd (x:El):Prop where
  ok:x.ok
  vld:vld x.core
  fw:Fw 1000 x
  dep:dep x.core ≤ 16
  cnt:cnt x.core ≤ 60
  len:(enc x.core).length ≤ 60000
theorem Gd.sub {e x:El} (g:Gd e) (hx:x ∈ e.s):Gd x:=by
  obtain ⟨v1,v2,v3,v4⟩:=(vld_eq e).1 g.vld
  have f:=g.fw
  obtain ⟨_,h1,h2⟩:=f
  have d:=g.dep
  rw [dep_eq] at d
  have c:=g.cnt
  rw [cnt_eq] at c
  have:=deps_mem hx
  have:=cnts_mem hx
  have l:=g.len
  have lm:=encs_mem hx
  rw [enc_eq,List.length_append,List.length_append,List.length_append] at l
  exact ⟨g.ok.sub x hx,vlds_all.1 v4 x hx,h2 x hx,by omega,by omega,by omega⟩
theorem Gd.sl {e:El} (g:Gd e):e.s.length ≤ 60:=by
  have c:=g.cnt
  rw [cnt_eq] at c
  have:=cnts_len e.s
  omega
end F23
end
section
open Ab Go TabE Sp E34 F1 F4 F5 F20
namespace F64
inductive Wn where
  | no
  | lit (i:Nat) (w:Int)
  | giv (i:Nat) (w:Int)
def Wn.cells:Wn → List AV
  | .no => zc
  | .lit i w => [.sl false [.int .i64 i] none,.int .i64 w]
  | .giv _ w => [.ref (1,71,0) 0 1 none,.int .i64 w]
def Wn.row:Wn → Heap
  | .giv i _ => [((1,71,0),FO.fr i)]
  | _ => []
def Wn.er:Wn → Int
  | .no => 0
  | .lit _ w => w
  | .giv _ w => w
def mt:Option (Nat × Int) → Wn → Prop
  | none,w => w=.no
  | some (i,v),w => v ≠ 0 ∧ (w=.lit i v ∨ w=.giv i v)
end F64
end
section
open Ab Go TabE Sp E34 F1 F4 F5
namespace F31
abbrev z5:List AV:=[.int .u8 0,.bool false,.int .u32 0,.sl true [] (some 0),.sl true [] (some 0)]
abbrev BadA:AExit × St:=(.ret,⟨[(4,.ptr (1,4,0) 0),(5,.bool false)],[((1,4,0),bx z5)]⟩)
def nx (e:El) (p:Int):El ⊕ (AExit × St):=if p < 0 then .inr BadA else match e.s[p.toNat]? with
  | some x => .inl x
  | none => .inr BadA
end F31
end
