/- Own work, no conditions. -/
import Derived.Test.YtbiildmljbcmeaaE12
import Derived.Test.YtbiildmljbcmeaaP5
import Derived.Test.YtbiildmljbcmeaaB40
set_option maxRecDepth 20000
set_option linter.unusedSimpArgs false
set_option linter.unusedVariables false
set_option maxHeartbeats 16000000
section
open Ab Go TabE
attribute [local simp ↓] s_seq s_reg s_regd s_cond s_block s_cons s_consG
attribute [local simp] s_nil s_loop s_round s_lpn s_lpe s_lpr firstReg s_gt s_gf s_wb s_wu s_val s_valN s_skip s_calls s_callP s_cax lookR flatR pureKs s_ret s_rgx s_sqn s_sqr s_sqe s_cdb s_bkn s_bkr s_bke s_exit s_ret' s_skip' s_finr s_finn s_fin1 s_fix s_clean s_gc0 o_tmp o_int o_bool o_nil o_str o_fn o_nil' l_hit l_miss l_nil ol_nil ol_cons ol_some x_move x_assign x_pick pk_t pk_f x_bin bn_s x_un x_extract x_callF cl_no x_callB x_callBF frzV x_conv cvx convA frame0 binA intOp resL resA results1 sealLW AV.pure AV.pureL keepT x_alloc x_box bxx x_build bdx x_buildSlice bsx x_buildSliceF bsf x_load ldx x_store stx x_slice slx x_fieldAddr x_field x_index ixx x_indexAddr iax x_makeSlice msx x_makeSliceF msf x_nilCheck newK genOf setK lookK fillA writeL writeC readC conts TyI.mk1 sliceA boundsA boundsB fitsA numA indexAddrA fieldAddrA partA fieldA indexA appendA copyA builtinA AV.cells chunk gcH reach keysT keepK inKs AV.keys AV.keysL Ty.isAgg eq1 eqL convA.go ltI w_u8 w_u32 w_u64 w_i64 w_fdiv w_tdiv w_tmod IntKind.bits unA sc_int sc_bool sc_str sc_sl sc_ref sc_ptr sc_pel sc_nilp sc_fn sc_nilf sc_if sc_nili sc_agg sc_tup sc_mem bs_pure bs_kl bs_length bs_cells bs_all sl_row sealRow sealY sl_int sl_bool sl_str sl_sl sl_nilp sl_nilf sl_nili sl_pel sl_agg sl_tup sl_fn sl_if nat_1 bs_cons bs_nil i_beq i_bne x_mkF x_mkI x_tassert x_panic s_pan s_sqp s_bkp s_finp s_fixp s_lpp s_rgp s_retp s_site s_stxN s_stxO x_callT clx El.avs_len
section
open Ab Go TabE Sp E12
namespace E13
theorem aLoop_many (K:Nat) (e:El) (he:e.ok) (m:Int) (m1:m ≤ 100000) (B:∀ x ∈ e.s,∀ p:Int,p ≤ 100000 → ∀ h,aCall E K 0 26 [x.av,.int .i64 p] h=some (.ret (.int .i64 (many x.core p)),h)) :
    ∀ (rest:List El) (i:Nat) (n:Int) (k:Nat),e.s.drop i=rest → i + rest.length=e.s.length → 1 ≤ n → n ≤ m + 1 → rest.length < k →
      ∃ j:Nat,aLoop (aCode E (aCall E K) (dcall (aRun E K)) K 1 fn26 b26) (cleanS 1 ((firstReg b26).bind fn26.head)) k (S26 e m i n)=some (.exit 0,⟨[(1,.int .i64 m),(2,.ptr (1,2,0) 0),(5,.int .i64 (manys (El.cores rest) m n)),(6,.int .i64 (j:Int)),(18,.bool false)],[((1,2,0),bx (ec e))]⟩)
  | [],i,n,k,h1,h2,n0,n1,hk => by
    obtain ⟨k,rfl⟩:∃ j,k=j + 1:=⟨k - 1,by simp at hk; omega⟩
    obtain rfl:i=e.s.length:=by simpa using h2
    exact ⟨_,aLoop_end (last26 K K e m n) (by simp)⟩
  | x :: rest,i,n,k,h1,h2,n0,n1,hk => by
    obtain ⟨k,rfl⟩:∃ j,k=j + 1:=⟨k - 1,by simp at hk; omega⟩
    have hx:e.s[i]? = some x:=by
      have:=congrArg (fun l => l[0]?) h1
      simpa [List.getElem?_drop] using this
    have hd:e.s.drop (i + 1)=rest:=by
      have:=congrArg List.tail h1
      simpa [List.tail_drop] using this
    rw [El.cores,manys]
    by_cases q:n ≤ m
    · rw [if_pos q]
      have b:=many_le x.core (m - n)
      rw [aLoop_succ (go26 K K e x m n _ i hx he.sl (by omega) q m1 (by omega) (by omega) (B x (List.mem_of_getElem? hx) (m - n) (by omega)))]
      exact aLoop_many K e he m m1 B rest (i + 1) _ k hd (by simp at h2; omega) (by omega) (by omega) (by simp at hk; omega)
    · rw [if_neg q]
      exact ⟨_,aLoop_end (out26 K K e m n i (by simp at h2; omega) q) (by simp)⟩
theorem many_con:∀ e:El,e.ok → ∃ N,∀ p:Int,p ≤ 100000 → Con E N 26 [e.av,.int .i64 p] (.int .i64 (many e.core p)):=by
  refine El.ind fun e ih he => ?_
  obtain ⟨N,hN⟩:=unif (P:=fun (x:El) (n:Nat) => ∀ p:Int,p ≤ 100000 → Con E n 26 [x.av,.int .i64 p] (.int .i64 (many x.core p))) (fun x n m h hm p hp => (h p hp).mono hm) e.s (fun x hx => ih x hx (he.sub x hx))
  obtain ⟨K,hK⟩:∃ K,N + e.s.length + 30=K:=⟨_,rfl⟩
  refine ⟨K + 1,fun p hp => con_of E_fn26 (by simp [AV.pureL,El.av_pure,AV.pure]) (Nat.le_of_ble_eq_true rfl) rfl rfl (g:=[]) ?_⟩
  rw [body_26,c26,many_eq]
  by_cases h:p ≤ 0
  · simp [El.av_eq,h]
  · obtain ⟨j,L⟩:=aLoop_many K e he p hp (fun x hx p hp h => hN x hx p hp K (by omega) 0 h) e.s 0 1 K rfl (by simp) (by omega) (by omega) (by omega)
    simp [b26,lp,lps,c26,firstReg,S26,ec] at L
    simp [El.av_eq,-s_round,h,L]
inductive Bd:El → Prop
  | mk (e:El):e.b.length ≤ 200 → (∀ x ∈ e.s,Bd x) → many e.core 60 ≤ 60 → Bd e
def b38:Code:=lp c38 0
abbrev S38 (e:El) (i:Nat):St:=⟨[(1,.ptr (1,1,0) 0),(3,.int .i64 (i:Int))],[((1,1,0),bx (ec e))]⟩
theorem go38 (q k1:Nat) (e x:El) (i:Nat) (hx:e.s[i]? = some x) (le:e.s.length ≤ 9223372036854775807) (B:∀ h,aCall E q 0 38 [x.av] h=some (.ret (.int .i64 1),h)) :
    rnd fn38 b38 q k1 (S38 e i)=some (.normal,S38 e (i + 1)):=by
  have hi:i < e.s.length:=(List.getElem?_eq_some_iff.1 hx).1
  have ix:=El.at_ e.fs e.cs e.s i x hx
  have w:=w64' ((i:Int) + 1) (by omega) (by omega)
  rw [El.av_eq] at B
  simp [b38,lp,lps,c38,-indexAddrA,ix,w,hi,B]
theorem out38 (q k1:Nat) (e x:El) (i:Nat) (hx:e.s[i]? = some x) (le:e.s.length ≤ 9223372036854775807) (B:∀ h,aCall E q 0 38 [x.av] h=some (.ret (.int .i64 0),h)) :
    rnd fn38 b38 q k1 (S38 e i)=some (.ret,⟨[(2,.int .i64 0)],[]⟩):=by
  have hi:i < e.s.length:=(List.getElem?_eq_some_iff.1 hx).1
  have ix:=El.at_ e.fs e.cs e.s i x hx
  rw [El.av_eq] at B
  simp [b38,lp,lps,c38,-indexAddrA,ix,hi,B]
theorem last38 (q k1:Nat) (e:El):rnd fn38 b38 q k1 (S38 e e.s.length)=some (.exit 0,⟨[(1,.ptr (1,1,0) 0),(3,.int .i64 (e.s.length:Int)),(15,.bool false)],[((1,1,0),bx (ec e))]⟩):=by
  simp [b38,lp,lps,c38]
theorem bounded:∀ e:El,e.ok → ∃ N r,Con E N 38 [e.av] (.int .i64 r) ∧ (r=0 ∨ (r=1 ∧ Bd e)):=by
  refine El.ind fun e ih he => ?_
  obtain ⟨N,hN⟩:=unif (P:=fun (x:El) (n:Nat) => ∃ r,Con E n 38 [x.av] (.int .i64 r) ∧ (r=0 ∨ (r=1 ∧ Bd x))) (fun x n m ⟨r,h1,h2⟩ hm => ⟨r,h1.mono hm,h2⟩) e.s (fun x hx => by
    obtain ⟨n,r,h⟩:=ih x hx (he.sub x hx); exact ⟨n,r,h⟩)
  obtain ⟨M,hM⟩:=many_con e he
  obtain ⟨K,hK⟩:∃ K,N + M + e.s.length + 30=K:=⟨_,rfl⟩
  have m60:=hM 60 (by omega) K (by omega) 0
  rw [El.av_eq] at m60
  have lb:=bs_length e.b
  by_cases h1:60 < many e.core 60
  · refine ⟨K + 1,0,con_of E_fn38 (by simp [AV.pureL,El.av_pure,AV.pure]) (Nat.le_of_ble_eq_true rfl) rfl rfl (g:=[]) ?_,.inl rfl⟩
    rw [body_38,c38]
    simp [El.av_eq,m60,h1]
  by_cases h2:200 < (e.b.length:Int)
  · have h2':200 < e.b.length:=by omega
    refine ⟨K + 1,0,con_of E_fn38 (by simp [AV.pureL,El.av_pure,AV.pure]) (Nat.le_of_ble_eq_true rfl) rfl rfl (g:=[]) ?_,.inl rfl⟩
    rw [body_38,c38]
    simp [El.av_eq,m60,h1,h2,h2']
  have h2':¬ 200 < e.b.length:=by omega
  rcases first_bad (fun i => ∀ x,e.s[i]? = some x → Con E N 38 [x.av] (.int .i64 1) ∧ Bd x) e.s.length with all | ⟨j,j1,j2,j3⟩
  · have L:=loopQ (fn:=fn38) (b:=b38) (K:=K) (k:=K) (fun i => S38 e i) e.s.length rfl (fun i hi => by
      obtain ⟨x,hx⟩:∃ x,e.s[i]? = some x:=⟨e.s[i],by simp⟩
      exact go38 K K e x i hx he.sl fun h => (all i hi x hx).1 K (by omega) 0 h) (last38 K K e) (by simp) (by omega)
    refine ⟨K + 1,1,con_of E_fn38 (by simp [AV.pureL,El.av_pure,AV.pure]) (Nat.le_of_ble_eq_true rfl) rfl rfl (g:=[]) ?_,.inr ⟨rfl,.mk e (by omega) (fun x hx => ?_) (by omega)⟩⟩
    · rw [body_38,c38]
      simp [b38,lp,lps,c38,firstReg,S38,ec] at L
      simp [El.av_eq,-s_round,m60,h1,h2,h2',L]
    · obtain ⟨i,hi,rfl⟩:=List.getElem_of_mem hx
      exact (all i hi _ (List.getElem?_eq_getElem hi)).2
  · obtain ⟨x,hx⟩:∃ x,e.s[j]? = some x:=⟨e.s[j],by simp⟩
    obtain ⟨r,c1,c2⟩:=hN x (List.mem_of_getElem? hx)
    have r0:r=0:=by
      rcases c2 with c2 | ⟨rfl,c2⟩
      · exact c2
      · exact absurd (fun y hy => by rw [hx] at hy; cases hy; exact ⟨c1,c2⟩) j2
    subst r0
    have L:=loopQ (fn:=fn38) (b:=b38) (K:=K) (k:=K) (fun i => S38 e i) j rfl (fun i hi => by
      obtain ⟨y,hy⟩:∃ y,e.s[i]? = some y:=⟨e.s[i]'(by omega),List.getElem?_eq_getElem _⟩
      exact go38 K K e y i hy he.sl fun h => (j3 i hi y hy).1 K (by omega) 0 h) (out38 K K e x j hx he.sl fun h => c1 K (by omega) 0 h) (by simp) (by omega)
    refine ⟨K + 1,0,con_of E_fn38 (by simp [AV.pureL,El.av_pure,AV.pure]) (Nat.le_of_ble_eq_true rfl) rfl rfl (g:=[]) ?_,.inl rfl⟩
    rw [body_38,c38]
    simp [b38,lp,lps,c38,firstReg,S38,ec] at L
    simp [El.av_eq,-s_round,m60,h1,h2,h2',L]
end E13
end
section
open Ab Go TabE Sp
namespace E14
theorem beq (f c g d) (xs ys:List Int) (hx:isB xs) (hy:isB ys):Con E 5 104 [.sl f (bs xs) c,.sl g (bs ys) d] (.bool (decide (xs=ys))):=by
  refine con_of E_fn104 (by simp [AV.pureL,AV.pure]) (Nat.le_of_ble_eq_true rfl) rfl rfl (g:=[]) ?_
  rw [body_104,c104]
  simp [bs_go hx,bs_go hy]
def b105:Code:=lp c105 0
abbrev S (f g:Bool) (a b:List El) (c d:Option Nat) (i:Nat):St:=⟨[(1,.sl g (El.avs b) d),(2,.fn 78 [] []),(15,.sl f (El.avs a) c),(16,.int .i64 (a.length:Int)),(17,.int .i64 (i:Int))],[]⟩
theorem go (q k1:Nat) (f g a b c d) (i:Nat) (x y:El) (hx:a[i]? = some x) (hy:b[i]? = some y) (la:a.length ≤ 9223372036854775807) (B:∀ h,aCall E q 0 78 [x.av,y.av] h=some (.ret (.bool true),h)) :
    rndO fn105 b105 q k1 (S f g a b c d i)=some (.normal,S f g a b c d (i + 1)):=by
  have hi:i < a.length:=(List.getElem?_eq_some_iff.1 hx).1
  have ix:=El.at_ f c a i x hx
  have iy:=El.at_ g d b i y hy
  have w:=w64' ((i:Int) + 1) (by omega) (by omega)
  rw [El.av_eq,El.av_eq] at B
  simp [b105,lp,lps,c105,-indexAddrA,ix,iy,w,hi,B]
theorem out (q k1:Nat) (f g a b c d) (i:Nat) (x y:El) (hx:a[i]? = some x) (hy:b[i]? = some y) (la:a.length ≤ 9223372036854775807) (B:∀ h,aCall E q 0 78 [x.av,y.av] h=some (.ret (.bool false),h)) :
    rndO fn105 b105 q k1 (S f g a b c d i)=some (.ret,⟨[(6,.bool false)],[]⟩):=by
  have hi:i < a.length:=(List.getElem?_eq_some_iff.1 hx).1
  have ix:=El.at_ f c a i x hx
  have iy:=El.at_ g d b i y hy
  rw [El.av_eq,El.av_eq] at B
  simp [b105,lp,lps,c105,-indexAddrA,ix,iy,hi,B]
theorem last (q k1:Nat) (f g a b c d):rndO fn105 b105 q k1 (S f g a b c d a.length)=some (.exit 0,⟨[(1,.sl g (El.avs b) d),(2,.fn 78 [] []),(15,.sl f (El.avs a) c),(16,.int .i64 (a.length:Int)),(17,.int .i64 (a.length:Int)),(18,.bool false)],[]⟩):=by
  simp [b105,lp,lps,c105]
theorem eqf (N:Nat) (f g a b c d) (la:a.length ≤ 9223372036854775807) (B:∀ x ∈ a,∀ y ∈ b,∃ v,Con E N 78 [x.av,y.av] (.bool v) ∧ (v=true ↔ x.core=y.core)) :
    ∃ v,(∀ k,N + a.length + 21 ≤ k → aRun E k 105 [.sl f (El.avs a) c,.sl g (El.avs b) d,.fn 78 [] []] []=some (.ret (.bool v),[])) ∧ (v=true ↔ El.cores a=El.cores b):=by
  by_cases hl:a.length=b.length
  case neg =>
    refine ⟨false,fun k hk => ?_,?_⟩
    · obtain ⟨K,rfl⟩:∃ K,k=K + 1:=⟨k - 1,by omega⟩
      rw [aRun_fn rfl E_fn105 rfl (Nat.le_of_ble_eq_true rfl),body_105,c105]
      have hl':¬ ((a.length:Int)=(b.length:Int)):=by omega
      simp [hl,hl']
    · simp; intro h; exact hl (El.cores_len h)
  rcases first_bad (fun i => ∀ x y,a[i]? = some x → b[i]? = some y → x.core=y.core) a.length with all | ⟨j,j1,j2,j3⟩
  · refine ⟨true,fun k hk => ?_,?_⟩
    · obtain ⟨K,rfl⟩:∃ K,k=K + 1:=⟨k - 1,by omega⟩
      rw [aRun_fn rfl E_fn105 rfl (Nat.le_of_ble_eq_true rfl),body_105,c105]
      have L:=loopO (fn:=fn105) (b:=b105) (K:=K) (k:=K) (fun i => S f g a b c d i) a.length rfl (fun i hi => by
        obtain ⟨x,hx⟩:∃ x,a[i]? = some x:=⟨a[i],by simp⟩
        obtain ⟨y,hy⟩:∃ y,b[i]? = some y:=⟨b[i]'(by omega),List.getElem?_eq_getElem _⟩
        obtain ⟨v,v1,v2⟩:=B x (List.mem_of_getElem? hx) y (List.mem_of_getElem? hy)
        obtain rfl:=v2.2 (all i hi x y hx hy)
        exact go K K f g a b c d i x y hx hy la fun h => v1 K (by omega) 0 h) (last K K f g a b c d) (by simp) (by omega)
      simp [b105,lp,lps,c105,firstReg,S,hl] at L
      simp [-s_round,hl,L]
    · simp only [true_iff]
      rw [El.cores_map,El.cores_map]
      apply List.ext_getElem?
      intro i
      rw [List.getElem?_map,List.getElem?_map]
      by_cases hi:i < a.length
      · obtain ⟨x,hx⟩:∃ x,a[i]? = some x:=⟨a[i],by simp⟩
        obtain ⟨y,hy⟩:∃ y,b[i]? = some y:=⟨b[i]'(by omega),List.getElem?_eq_getElem _⟩
        rw [hx,hy,Option.map_some,Option.map_some,all i hi x y hx hy]
      · rw [List.getElem?_eq_none (by omega),List.getElem?_eq_none (by omega)]
  · obtain ⟨x,hx⟩:∃ x,a[j]? = some x:=⟨a[j],by simp⟩
    obtain ⟨y,hy⟩:∃ y,b[j]? = some y:=⟨b[j]'(by omega),List.getElem?_eq_getElem _⟩
    have ne:x.core ≠ y.core:=fun e => j2 fun x' y' hx' hy' => by rw [hx] at hx'; rw [hy] at hy'; cases hx'; cases hy'; exact e
    refine ⟨false,fun k hk => ?_,?_⟩
    · obtain ⟨K,rfl⟩:∃ K,k=K + 1:=⟨k - 1,by omega⟩
      rw [aRun_fn rfl E_fn105 rfl (Nat.le_of_ble_eq_true rfl),body_105,c105]
      obtain ⟨v,v1,v2⟩:=B x (List.mem_of_getElem? hx) y (List.mem_of_getElem? hy)
      have v0:v=false:=by cases v; rfl; exact absurd (v2.1 rfl) ne
      subst v0
      have L:=loopO (fn:=fn105) (b:=b105) (K:=K) (k:=K) (fun i => S f g a b c d i) j rfl (fun i hi => by
        obtain ⟨x,hx⟩:∃ x,a[i]? = some x:=⟨a[i]'(by omega),List.getElem?_eq_getElem _⟩
        obtain ⟨y,hy⟩:∃ y,b[i]? = some y:=⟨b[i]'(by omega),List.getElem?_eq_getElem _⟩
        obtain ⟨v,v1,v2⟩:=B x (List.mem_of_getElem? hx) y (List.mem_of_getElem? hy)
        obtain rfl:=v2.2 (j3 i hi x y hx hy)
        exact go K K f g a b c d i x y hx hy la fun h => v1 K (by omega) 0 h) (out K K f g a b c d j x y hx hy la fun h => v1 K (by omega) 0 h) (by simp) (by omega)
      simp [b105,lp,lps,c105,firstReg,S,hl] at L
      simp [-s_round,hl,L]
    · simp
      intro h
      exact ne (El.cores_get h hx hy)
theorem op_eqf {run:RunF} {slot:Nat} {x y:AV} {v:Bool} {h:Heap} (hx:x.pure=true) (hy:y.pure=true) (hr:run 105 [x,y,.fn 78 [] []] []=some (.ret (.bool v),[])) :
    opened [false,false,true] true run slot 105 [x,y,.fn 78 [] []] h=some (.ret (.bool v),h):=by
  have e1:sealM (sealA 20) [false,false,true] h [x,y,.fn 78 [] []]=some ([x,y,.fn 78 [] []],h):=by simp [sealM,sealA_of_pure hx,sealA_of_pure hy]
  have e2:AV.keysL [x,y,.fn 78 [] []]=[]:=by simp [AV.keysL,AV.keys,AV.keys_pure x hx,AV.keys_pure y hy]
  have e3:AV.rnL (inK []) [x,y,.fn 78 [] []]=[x,y,.fn 78 [] []]:=by simp [AV.rnL,AV.rn,rn_pure x hx,rn_pure y hy]
  have e7:∀ h:Heap,dd (reach h 3 [])=[]:=fun h => rfl
  unfold opened
  rw [e1]
  simp only [e2,e7]
  unfold lendA
  simp only [lendH,closedH,e2,List.all_nil,and_self,if_true,e3,hr]
  rfl
theorem equal:∀ a:El,∀ b:El,a.ok → b.ok → ∃ N v,Con E N 78 [a.av,b.av] (.bool v) ∧ (v=true ↔ a.core=b.core):=by
  refine El.ind fun a ih b ha hb => ?_
  obtain ⟨N,hN⟩:=unif (P:=fun (x:El) (n:Nat) => ∀ y ∈ b.s,∃ v,Con E n 78 [x.av,y.av] (.bool v) ∧ (v=true ↔ x.core=y.core)) (fun x n m h hm y hy => by obtain ⟨v,v1,v2⟩:=h y hy; exact ⟨v,v1.mono hm,v2⟩) a.s (fun x hx => by
    obtain ⟨M,hM⟩:=unif (P:=fun (y:El) (n:Nat) => ∃ v,Con E n 78 [x.av,y.av] (.bool v) ∧ (v=true ↔ x.core=y.core)) (fun y n m ⟨v,v1,v2⟩ hm => ⟨v,v1.mono hm,v2⟩) b.s (fun y hy => by
      obtain ⟨n,v,h⟩:=ih x hx y (ha.sub x hx) (hb.sub y hy); exact ⟨n,v,h⟩)
    exact ⟨M,fun y hy => hM y hy⟩)
  obtain ⟨v,v1,v2⟩:=eqf N a.fs b.fs a.s b.s a.cs b.cs ha.sl hN
  obtain ⟨K,hK⟩:∃ K,N + a.s.length + 41=K:=⟨_,rfl⟩
  have o:=fun slot h => op_eqf (slot:=slot) (h:=h) rfl rfl (v1 K (by omega))
  have q:=beq a.fb a.cb b.fb b.cb a.b b.b ha.bb hb.bb K (by omega) 0
  refine ⟨K + 1,decide (a.c=b.c) && decide (a.k=b.k) && decide (a.n=b.n) && decide (a.b=b.b) && v,con_ofO E_fn78 (by simp [AV.pureL,El.av_pure]) (Nat.le_of_ble_eq_true rfl) rfl (g:=[]) ?_,?_⟩
  · rw [body_78,c78]
    by_cases h1:a.c=b.c
    case neg => simp [El.av_eq,fitZ,h1]
    by_cases h2:a.k=b.k
    case neg => have h2':(a.k == b.k)=false:=by simpa using h2
                simp [El.av_eq,fitZ,h1,h2,h2']
    by_cases h3:a.n=b.n
    case neg => simp [El.av_eq,fitZ,h1,h2,h3]
    by_cases h4:a.b=b.b
    · rw [decide_eq_true h4,h4] at q
      simp [El.av_eq,fitZ,h1,h2,h3,h4,q,o]
    · rw [decide_eq_false h4] at q
      simp [El.av_eq,fitZ,h1,h2,h3,h4,q]
  · rw [El.core_inj,← v2]
    simp [and_assoc]
theorem same_ok (a b:El) (ha:a.ok) (hb:b.ok) (h1:(chk a.core 1 0 0).1=0) (h2:(chk b.core 1 0 0).1=0):∃ N v,Con E N 36 [a.av,b.av] (.bool v) ∧ (v=true ↔ a.core=b.core):=by
  obtain ⟨N,v,e1,e2⟩:=equal a b ha hb
  obtain ⟨N1,c1⟩:=E10.check a ha
  obtain ⟨N2,c2⟩:=E10.check b hb
  obtain ⟨K,hK⟩:∃ K,N + N1 + N2 + 20=K:=⟨_,rfl⟩
  have e1':=e1 K (by omega) 0
  have c1':=c1 K (by omega) 0
  have c2':=c2 K (by omega) 0
  rw [El.av_eq,h1] at c1'
  rw [El.av_eq,h2] at c2'
  rw [El.av_eq,El.av_eq] at e1'
  refine ⟨K + 1,v,con_of E_fn36 (by simp [AV.pureL,El.av_pure]) (Nat.le_of_ble_eq_true rfl) rfl rfl (g:=[]) ?_,e2⟩
  rw [body_36,c36]
  simp [El.av_eq,c1',c2',e1']
theorem same_bad (a b:El) (ha:a.ok) (h1:(chk a.core 1 0 0).1 ≠ 0):∃ N,Con E N 36 [a.av,b.av] (.bool false):=by
  obtain ⟨N1,c1⟩:=E10.check a ha
  obtain ⟨K,hK⟩:∃ K,N1 + 20=K:=⟨_,rfl⟩
  have c1':=c1 K (by omega) 0
  rw [El.av_eq] at c1'
  refine ⟨K + 1,con_of E_fn36 (by simp [AV.pureL,El.av_pure]) (Nat.le_of_ble_eq_true rfl) rfl rfl (g:=[]) ?_⟩
  rw [body_36,c36]
  simp [El.av_eq,c1',h1]
theorem bcmp (f c g d) (xs ys:List Int) (hx:isB xs) (hy:isB ys):Con E 5 79 [.sl f (bs xs) c,.sl g (bs ys) d] (.int .i64 (cmpI xs ys)):=by
  refine con_of E_fn79 (by simp [AV.pureL,AV.pure]) (Nat.le_of_ble_eq_true rfl) rfl rfl (g:=[]) ?_
  rw [body_79,c79]
  simp [cl_yes,extA,bs_go hx,bs_go hy]
theorem compare (a b:El) (f c g d) (xs ys:List Int) (hx:isB xs) (hy:isB ys) (N:Nat) (e1 e2:Int) (ha:Con E N 21 [a.av] (.tup [.sl f (bs xs) c,.int .i64 e1])) (hb:Con E N 21 [b.av] (.tup [.sl g (bs ys) d,.int .i64 e2])) :
    Con E (N + 21) 37 [a.av,b.av] (.int .i64 (cmpI xs ys)):=by
  have ha':=ha (N + 20) (by omega) 0
  have hb':=hb (N + 20) (by omega) 0
  have q:=bcmp f c g d xs ys hx hy (N + 20) (by omega) 0
  rw [El.av_eq] at ha' hb'
  refine con_of E_fn37 (by simp [AV.pureL,El.av_pure]) (Nat.le_of_ble_eq_true rfl) rfl rfl (g:=[]) ?_
  rw [body_37,c37]
  simp [El.av_eq,ha',hb',q]
end E14
end
section
open Ab Go TabE Sp
namespace E15
theorem grp1 (v:Int) (h0:0 ≤ v) (h1:v < 128):Con E 20 103 [.int .i64 v] (.sl false [.int .u8 (TG.oct v 0)] (some 1)):=by
  refine con_of E_fn103 rfl (Nat.le_of_ble_eq_true rfl) rfl rfl (g:=[]) ?_
  rw [body_103,c103]
  have q1:v.tmod 128=v:=by rw [Int.tmod_eq_emod_of_nonneg h0]; omega
  have q2:v.tdiv 128=0:=by rw [Int.tdiv_eq_ediv_of_nonneg h0]; omega
  have q3:v % 256=v:=by omega
  have o:TG.oct v 0=v:=by unfold TG.oct; simp; omega
  simp [q1,q2,q3,o,w_i64]
theorem grp2 (v:Int) (h0:128 ≤ v) (h1:v < 16384):Con E 20 103 [.int .i64 v] (.sl false [.int .u8 (TG.oct v 1),.int .u8 (TG.oct v 0)] none):=by
  refine con_of E_fn103 rfl (Nat.le_of_ble_eq_true rfl) rfl rfl (g:=[]) ?_
  rw [body_103,c103]
  have q1:v.tmod 128=v % 128:=Int.tmod_eq_emod_of_nonneg (by omega)
  have q2:v.tdiv 128=v / 128:=Int.tdiv_eq_ediv_of_nonneg (by omega)
  have q3:v % 128 % 256=v % 128:=by omega
  have a1:0 < v / 128:=by omega
  have q4:(v / 128).tmod 128=v / 128:=by rw [Int.tmod_eq_emod_of_nonneg (by omega)]; omega
  have q5:(v / 128).tdiv 128=0:=by rw [Int.tdiv_eq_ediv_of_nonneg (by omega)]; omega
  have w1:=w64' (v / 128) (by omega) (by omega)
  have w2:=w64' (128 + v / 128) (by omega) (by omega)
  have q6:(128 + v / 128) % 256=128 + v / 128:=by omega
  have o0:TG.oct v 0=v % 128:=by unfold TG.oct; simp
  have o1:TG.oct v 1=128 + v / 128:=by unfold TG.oct; simp; omega
  simp [q1,q2,q3,a1,q4,q5,w1,w2,q6,o0,o1,w_i64]
theorem grp3 (v:Int) (h0:16384 ≤ v) (h1:v < 2097152):Con E 20 103 [.int .i64 v] (.sl false [.int .u8 (TG.oct v 2),.int .u8 (TG.oct v 1),.int .u8 (TG.oct v 0)] none):=by
  refine con_of E_fn103 rfl (Nat.le_of_ble_eq_true rfl) rfl rfl (g:=[]) ?_
  rw [body_103,c103]
  have q1:v.tmod 128=v % 128:=Int.tmod_eq_emod_of_nonneg (by omega)
  have q2:v.tdiv 128=v / 128:=Int.tdiv_eq_ediv_of_nonneg (by omega)
  have q3:v % 128 % 256=v % 128:=by omega
  have a1:0 < v / 128:=by omega
  have q4:(v / 128).tmod 128=v / 128 % 128:=Int.tmod_eq_emod_of_nonneg (by omega)
  have q5:(v / 128).tdiv 128=v / 16384:=by rw [Int.tdiv_eq_ediv_of_nonneg (by omega)]; omega
  have a2:0 < v / 16384:=by omega
  have q7:(v / 16384).tmod 128=v / 16384:=by rw [Int.tmod_eq_emod_of_nonneg (by omega)]; omega
  have q8:(v / 16384).tdiv 128=0:=by rw [Int.tdiv_eq_ediv_of_nonneg (by omega)]; omega
  have w1:=w64' (v / 128) (by omega) (by omega)
  have w3:=w64' (v / 16384) (by omega) (by omega)
  have w2:=w64' (128 + v / 128 % 128) (by omega) (by omega)
  have w4:=w64' (128 + v / 16384) (by omega) (by omega)
  have q6:(128 + v / 128 % 128) % 256=128 + v / 128 % 128:=by omega
  have q9:(128 + v / 16384) % 256=128 + v / 16384:=by omega
  have o0:TG.oct v 0=v % 128:=by unfold TG.oct; simp
  have o1:TG.oct v 1=128 + v / 128 % 128:=by unfold TG.oct; simp; omega
  have o2:TG.oct v 2=128 + v / 16384:=by unfold TG.oct; simp; omega
  simp [q1,q2,q3,a1,a2,q4,q5,q7,q8,w1,w2,w3,w4,q6,q9,o0,o1,o2,w_i64]
theorem grp4 (v:Int) (h0:2097152 ≤ v) (h1:v < 268435456):Con E 20 103 [.int .i64 v] (.sl false [.int .u8 (TG.oct v 3),.int .u8 (TG.oct v 2),.int .u8 (TG.oct v 1),.int .u8 (TG.oct v 0)] none):=by
  refine con_of E_fn103 rfl (Nat.le_of_ble_eq_true rfl) rfl rfl (g:=[]) ?_
  rw [body_103,c103]
  have q1:v.tmod 128=v % 128:=Int.tmod_eq_emod_of_nonneg (by omega)
  have q2:v.tdiv 128=v / 128:=Int.tdiv_eq_ediv_of_nonneg (by omega)
  have q3:v % 128 % 256=v % 128:=by omega
  have a1:0 < v / 128:=by omega
  have q4:(v / 128).tmod 128=v / 128 % 128:=Int.tmod_eq_emod_of_nonneg (by omega)
  have q5:(v / 128).tdiv 128=v / 16384:=by rw [Int.tdiv_eq_ediv_of_nonneg (by omega)]; omega
  have a2:0 < v / 16384:=by omega
  have q7:(v / 16384).tmod 128=v / 16384 % 128:=Int.tmod_eq_emod_of_nonneg (by omega)
  have q8:(v / 16384).tdiv 128=v / 2097152:=by rw [Int.tdiv_eq_ediv_of_nonneg (by omega)]; omega
  have a3:0 < v / 2097152:=by omega
  have q10:(v / 2097152).tmod 128=v / 2097152:=by rw [Int.tmod_eq_emod_of_nonneg (by omega)]; omega
  have q11:(v / 2097152).tdiv 128=0:=by rw [Int.tdiv_eq_ediv_of_nonneg (by omega)]; omega
  have w1:=w64' (v / 128) (by omega) (by omega)
  have w3:=w64' (v / 16384) (by omega) (by omega)
  have w5:=w64' (v / 2097152) (by omega) (by omega)
  have w2:=w64' (128 + v / 128 % 128) (by omega) (by omega)
  have w4:=w64' (128 + v / 16384 % 128) (by omega) (by omega)
  have w6:=w64' (128 + v / 2097152) (by omega) (by omega)
  have q6:(128 + v / 128 % 128) % 256=128 + v / 128 % 128:=by omega
  have q9:(128 + v / 16384 % 128) % 256=128 + v / 16384 % 128:=by omega
  have q12:(128 + v / 2097152) % 256=128 + v / 2097152:=by omega
  have o0:TG.oct v 0=v % 128:=by unfold TG.oct; simp
  have o1:TG.oct v 1=128 + v / 128 % 128:=by unfold TG.oct; simp; omega
  have o2:TG.oct v 2=128 + v / 16384 % 128:=by unfold TG.oct; simp; omega
  have o3:TG.oct v 3=128 + v / 2097152:=by unfold TG.oct; simp; omega
  simp [q1,q2,q3,a1,a2,a3,q4,q5,q7,q8,q10,q11,w1,w2,w3,w4,w5,w6,q6,q9,q12,o0,o1,o2,o3,w_i64]
theorem groups (v:Int) (h0:0 ≤ v) (h1:v < 268435456):∃ c,Con E 20 103 [.int .i64 v] (.sl false (bs (TG.grp v)) c):=by
  unfold TG.grp TG.top
  by_cases a:v < 128
  · rw [if_pos a]; exact ⟨_,grp1 v h0 a⟩
  rw [if_neg a]
  by_cases b:v < 16384
  · rw [if_pos b]; exact ⟨_,grp2 v (by omega) b⟩
  rw [if_neg b]
  by_cases c:v < 2097152
  · rw [if_pos c]; exact ⟨_,grp3 v (by omega) c⟩
  rw [if_neg c]; exact ⟨_,grp4 v (by omega) h1⟩
theorem rtag_lo (c:Int) (k:Bool) (n:Int) (c0:0 ≤ c) (c3:c ≤ 3) (n0:0 ≤ n) (n1:n < 31):∀ q,20 ≤ q → aRun E q 76 [.agg [.int .u8 c,.bool k,.int .u32 n]] []=some (.ret (.ref (1,21,0) 0 1 (some 1)),[((1,21,0),⟨bs (TG.tagO c k n),true,true,true,1,false⟩)]):=by
  intro q hq
  obtain ⟨K,rfl⟩:∃ K,q=K + 1:=⟨q - 1,by omega⟩
  rw [aRun_fn rfl E_fn76 rfl (Nat.le_of_ble_eq_true rfl),body_76,c76]
  have w1:=w64' c (by omega) (by omega)
  have w2:=w64' (64 * c) (by omega) (by omega)
  have w3:=w64' (64 * c + 32) (by omega) (by omega)
  have w4:=w64' n (by omega) (by omega)
  have w5:=w64' (64 * c + n) (by omega) (by omega)
  have w6:=w64' (64 * c + 32 + n) (by omega) (by omega)
  have m1:(64 * c + n) % 256=64 * c + n:=by omega
  have m2:(64 * c + 32 + n) % 256=64 * c + 32 + n:=by omega
  unfold TG.tagO
  rw [if_pos n1]
  cases k <;> simp [n1,w1,w2,w3,w4,w5,w6,m1,m2]
theorem rtag_hi (c:Int) (k:Bool) (n:Int) (c0:0 ≤ c) (c3:c ≤ 3) (n0:31 ≤ n) (n1:n < 268435456):∀ q,40 ≤ q → aRun E q 76 [.agg [.int .u8 c,.bool k,.int .u32 n]] []=some (.ret (.ref (1,30,0) 0 (TG.tagO c k n).length none),[((1,30,0),⟨bs (TG.tagO c k n),true,true,false,1,false⟩)]):=by
  intro q hq
  obtain ⟨K,rfl⟩:∃ K,q=K + 1:=⟨q - 1,by omega⟩
  rw [aRun_fn rfl E_fn76 rfl (Nat.le_of_ble_eq_true rfl),body_76,c76]
  have w1:=w64' c (by omega) (by omega)
  have w2:=w64' (64 * c) (by omega) (by omega)
  have w3:=w64' (64 * c + 32) (by omega) (by omega)
  have w4:=w64' n (by omega) (by omega)
  have w5:=w64' (64 * c + 31) (by omega) (by omega)
  have w6:=w64' (64 * c + 32 + 31) (by omega) (by omega)
  have m1:(64 * c + 31) % 256=64 * c + 31:=by omega
  have m2:(64 * c + 32 + 31) % 256=64 * c + 32 + 31:=by omega
  have h31:¬ n < 31:=by omega
  obtain ⟨gc,hg⟩:=groups n (by omega) n1
  have hg':=hg K (by omega) 0
  unfold TG.tagO
  rw [if_neg h31]
  have gl:1 ≤ (TG.grp n).length ∧ (TG.grp n).length ≤ 4:=by unfold TG.grp; split <;> simp
  have g1:TG.grp n ≠ []:=by intro e; rw [e] at gl; simp at gl
  have cp:(TG.grp n).length + 1 ≤ 70368744177664:=by omega
  cases k <;> simp [h31,w1,w2,w3,w4,w5,w6,m1,m2,hg',g1,cp]
end E15
end
section
open Ab Go TabE Sp
namespace E16
theorem op_give {run:RunF} {slot:Nat} {g:FuncId} {cs:List AV} {kk:Key} {len:Nat} {cap:Option Nat} {o:AObj} {h:Heap} (hk:kk.1 ≠ 0) (hp:AV.pureL cs=true) (k1:AV.keysL o.cells=[]) (r1:∀ φ,AV.rnL φ o.cells=o.cells) (hg:genOf h 1 slot=0)
    (hr:run g [.agg cs] []=some (.ret (.ref kk 0 len cap),[(kk,o)])) :
    opened [false] false run slot g [.agg cs] h=some (.ret (.ref (1,slot,0) 0 len cap),setK h (1,slot,0) o):=by
  have e1:sealM (sealA 20) [false] h [.agg cs]=some ([.agg cs],h):=by simp [sealM,sl_agg,hp]
  have kc:AV.keysL cs=[]:=AV.keysL_pure _ hp
  have rc:∀ φ,AV.rnL φ cs=cs:=fun φ => rnL_pure cs hp
  unfold opened
  rw [e1]
  have e2:AV.keysL [.agg cs]=[]:=by simp [AV.keysL,AV.keys,kc]
  have e7:∀ h:Heap,dd (reach h 3 [])=[]:=fun h => rfl
  simp only [e2,e7]
  unfold lendA
  have e3:AV.rnL (inK []) [.agg cs]=[.agg cs]:=by simp [AV.rnL,AV.rn,rc]
  simp only [lendH,closedH,e2,List.all_nil,and_self,if_true,e3,hr]
  have e4:AV.keysL [AV.ref kk 0 len cap]=[kk]:=rfl
  have e5:dd (reach [(kk,o)] 3 ([] ++ [kk]))=[kk]:=by simp [reach,lookK,k1,dd]
  have e6:lentKs 0=[]:=rfl
  simp only [backR,Bool.false_eq_true,if_false,backV,back,List.length_nil,e4,e6,e5,backA]
  have e8:closedH [(kk,o)] [kk] [kk]=true:=by simp [closedH,lookK,k1]
  have e9:([kk]:List Key).all (okK 0)=true:=by simp [okK,hk]
  rw [if_pos ⟨e8,e9,by simp [inKs],by simp⟩]
  have e10:([kk]:List Key).filter (fun k => !decide (k.1=0))=[kk]:=by simp [hk]
  have e11:outK [] [kk] slot (genOf h 1 slot) kk=(1,slot,0):=by unfold outK; rw [if_neg hk]; simp [posK,hg]
  simp only [e10,AV.rnL,AV.rn,e11,putAll,lookK,if_true,r1]
def b35:Code:=lp c35 0
abbrev S (e:El) (i:Nat) (key:Key) (cap:Option Nat) (ex:Bool) (ys:List Int):St:=⟨[(1,.ptr (1,1,0) 0),(3,.ref key 0 ys.length cap),(4,.int .i64 (i:Int))],[((1,1,0),bx (ec e)),(key,⟨bs ys,true,true,ex,1,false⟩)]⟩
theorem first (q k1:Nat) (e x:El) (i:Nat) (xs:List Int) (c:Option Nat) (hx:e.s[i]? = some x) (le:e.s.length ≤ 9223372036854775807) (n0:xs ≠ []) (n1:xs.length ≤ 2000000) (B:∀ h,aCall E q 0 35 [x.av] h=some (.ret (.sl false (bs xs) c),h)) :
    rndO fn35 b35 q k1 (S e i (1,5,0) (some 0) true [])=some (.normal,S e (i + 1) (1,23,0) none false xs):=by
  have hi:i < e.s.length:=(List.getElem?_eq_some_iff.1 hx).1
  have ix:=El.at_ e.fs e.cs e.s i x hx
  have w:=w64' ((i:Int) + 1) (by omega) (by omega)
  have cp:xs.length ≤ 70368744177664:=by omega
  rw [El.av_eq] at B
  simp [b35,lp,lps,c35,-indexAddrA,ix,w,hi,B,n0,cp]
theorem next (q k1:Nat) (e x:El) (i m:Nat) (xs ys:List Int) (c:Option Nat) (hx:e.s[i]? = some x) (le:e.s.length ≤ 9223372036854775807) (n1:ys.length + xs.length ≤ 2000000) (B:∀ h,aCall E q 0 35 [x.av] h=some (.ret (.sl false (bs xs) c),h)) :
    rndO fn35 b35 q k1 (S e i (1,23,m) none false ys)=some (.normal,S e (i + 1) (1,23,m + 1) none false (ys ++ xs)):=by
  have hi:i < e.s.length:=(List.getElem?_eq_some_iff.1 hx).1
  have ix:=El.at_ e.fs e.cs e.s i x hx
  have w:=w64' ((i:Int) + 1) (by omega) (by omega)
  have cp:ys.length + xs.length ≤ 70368744177664:=by omega
  have kk:AV.keysL (bs ys ++ bs xs)=[]:=by rw [← bs_append]; exact bs_kl _
  rw [El.av_eq] at B
  simp [b35,lp,lps,c35,-indexAddrA,ix,w,hi,B,cp,bs_append,kk]
theorem last (q k1:Nat) (e:El) (key:Key) (cap:Option Nat) (ex:Bool) (ys:List Int) (hkey:key=(1,5,0) ∨ key=(1,8,0) ∨ ∃ m,key=(1,23,m)):rndO fn35 b35 q k1 (S e e.s.length key cap ex ys)=some (.exit 0,⟨[(1,.ptr (1,1,0) 0),(3,.ref key 0 ys.length cap),(4,.int .i64 (e.s.length:Int)),(13,.bool false)],[((1,1,0),bx (ec e)),(key,⟨bs ys,true,true,ex,1,false⟩)]⟩):=by
  rcases hkey with rfl | rfl | ⟨m,rfl⟩ <;> simp [b35,lp,lps,c35]
end E16
end
end
section
open Ab Go TabE Sp E16
namespace E17
theorem rlen (n:Int) (n0:0 ≤ n) (n1:n ≤ 16777215):∃ c,Con E 20 77 [.int .i64 n] (.sl false (bs (lenO n)) c):=by
  unfold lenO
  split
  · exact ⟨_,P2.ref_1 n n0 (by omega)⟩
  split
  · exact ⟨_,P2.ref_2 n (by omega) (by omega)⟩
  split
  · exact ⟨_,P2.ref_3 n (by omega) (by omega)⟩
  · exact ⟨_,P2.ref_4 n (by omega) (by omega)⟩
abbrev Fin (e:El) (key:Key) (cap:Option Nat) (ex:Bool) (ys:List Int):Option (AExit × St):=some (.exit 0,⟨[(1,.ptr (1,1,0) 0),(3,.ref key 0 ys.length cap),(4,.int .i64 (e.s.length:Int)),(13,.bool false)],[((1,1,0),bx (ec e)),(key,⟨bs ys,true,true,ex,1,false⟩)]⟩)
theorem enc_ne (e:El):enc e.core ≠ []:=by
  intro h
  have:=congrArg List.length h
  rw [enc_eq,List.length_append] at this
  have t:=tagO_len e.c e.k e.n
  simp only [List.length_nil] at this
  omega
theorem loop1 (K:Nat) (e:El) (le:e.s.length ≤ 9223372036854775807) (B:∀ x ∈ e.s,∃ c,∀ h,aCall E K 0 35 [x.av] h=some (.ret (.sl false (bs (enc x.core)) c),h)) :
    ∀ (rest:List El) (i m:Nat) (ys:List Int) (k:Nat),e.s.drop i=rest → i + rest.length=e.s.length → ys.length + (encs (El.cores rest)).length ≤ 2000000 → rest.length < k →
      ∃ m',aLoop (aCode E (site fn35 (aRun E K)) (dcall (aRun E K)) K 1 fn35 b35) (cleanS 1 ((firstReg b35).bind fn35.head)) k (S e i (1,23,m) none false ys)=Fin e (1,23,m') none false (ys ++ encs (El.cores rest))
  | [],i,m,ys,k,h1,h2,hl,hk => by
    obtain ⟨k,rfl⟩:∃ j,k=j + 1:=⟨k - 1,by simp at hk; omega⟩
    obtain rfl:i=e.s.length:=by simpa using h2
    exact ⟨m,by rw [aLoop_end (last K K e _ none false ys (.inr (.inr ⟨m,rfl⟩))) (by simp)]; simp [El.cores,encs]⟩
  | x :: rest,i,m,ys,k,h1,h2,hl,hk => by
    obtain ⟨k,rfl⟩:∃ j,k=j + 1:=⟨k - 1,by simp at hk; omega⟩
    have hx:e.s[i]? = some x:=by
      have:=congrArg (fun l => l[0]?) h1
      simpa [List.getElem?_drop] using this
    have hd:e.s.drop (i + 1)=rest:=by
      have:=congrArg List.tail h1
      simpa [List.tail_drop] using this
    obtain ⟨c,hB⟩:=B x (List.mem_of_getElem? hx)
    rw [El.cores,encs,List.length_append] at hl
    obtain ⟨m',h⟩:=loop1 K e le B rest (i + 1) (m + 1) (ys ++ enc x.core) k hd (by simp at h2; omega) (by rw [List.length_append]; omega) (by simp at hk; omega)
    refine ⟨m',?_⟩
    rw [aLoop_succ (next K K e x i m (enc x.core) ys c hx le (by omega) hB),h,El.cores,encs,List.append_assoc]
theorem loop0 (K:Nat) (e:El) (le:e.s.length ≤ 9223372036854775807) (B:∀ x ∈ e.s,∃ c,∀ h,aCall E K 0 35 [x.av] h=some (.ret (.sl false (bs (enc x.core)) c),h)) (hl:(encs (El.cores e.s)).length ≤ 2000000) (hk:e.s.length < K) :
      ∃ key cap ex,(key=(1,5,0) ∨ ∃ m,key=(1,23,m)) ∧ aLoop (aCode E (site fn35 (aRun E K)) (dcall (aRun E K)) K 1 fn35 b35) (cleanS 1 ((firstReg b35).bind fn35.head)) K (S e 0 (1,5,0) (some 0) true [])=Fin e key cap ex (encs (El.cores e.s)):=by
  obtain ⟨k,rfl⟩:∃ j,K=j + 1:=⟨K - 1,by omega⟩
  cases hs:e.s with
  | nil =>
    refine ⟨(1,5,0),some 0,true,.inl rfl,?_⟩
    have:=last (k + 1) (k + 1) e (1,5,0) (some 0) true [] (.inl rfl)
    have h0:e.s.length=0:=by rw [hs]; rfl
    rw [h0] at this
    rw [aLoop_end this (by simp)]
    simp [El.cores,encs,hs,Fin]
  | cons x rest =>
    have hx:e.s[0]? = some x:=by rw [hs]; rfl
    obtain ⟨c,hB⟩:=B x (List.mem_of_getElem? hx)
    rw [hs,El.cores,encs,List.length_append] at hl
    obtain ⟨m',h⟩:=loop1 (k + 1) e le B rest 1 0 (enc x.core) k (by rw [hs]; rfl) (by rw [hs]; simp; omega) hl (by rw [hs] at hk; simp at hk; omega)
    refine ⟨(1,23,m'),none,false,.inr ⟨m',rfl⟩,?_⟩
    rw [aLoop_succ (first (k + 1) (k + 1) e x 0 (enc x.core) c hx le (enc_ne x) (by omega) hB),h,El.cores,encs]
theorem rput:∀ e:El,e.ok → vld e.core → (enc e.core).length ≤ 1100000 → ∃ N,Con E N 35 [e.av] (.sl false (bs (enc e.core)) none):=by
  refine El.ind fun e ih he hv hl => ?_
  obtain ⟨v1,v2,v3,v4⟩:=(vld_eq e).1 hv
  obtain ⟨t3,n3⟩:e.c ≤ 3 ∧ e.n ≤ 268435455:=by
    have:=v1; unfold tagE at this
    split at this
    · cases this
    · omega
  have tl:=tagO_len e.c e.k e.n
  have el:=enc_eq e
  obtain ⟨ct,hct⟩:∃ ct,e.b ++ encs (El.cores e.s)=ct:=⟨_,rfl⟩
  rw [hct] at el
  have lel:(enc e.core).length=(TG.tagO e.c e.k e.n).length + ((lenO (ct.length:Int)).length + ct.length):=by rw [el,List.length_append,List.length_append]
  have lct:ct.length=e.b.length + (encs (El.cores e.s)).length:=by rw [← hct,List.length_append]
  have sub_le:∀ l:List El,∀ x ∈ l,(enc x.core).length ≤ (encs (El.cores l)).length:=by
    intro l
    induction l with
    | nil => intro x hx; cases hx
    | cons y l ih =>
      intro x hx
      rw [El.cores,encs,List.length_append]
      rcases List.mem_cons.1 hx with rfl | hx
      · omega
      · have:=ih x hx; omega
  obtain ⟨N,hN⟩:=unif (P:=fun (x:El) (n:Nat) => Con E n 35 [x.av] (.sl false (bs (enc x.core)) none)) (fun x n m h hm => h.mono hm) e.s (fun x hx => ih x hx (he.sub x hx) (vlds_all.1 v4 x hx) (by have:=sub_le _ x hx; omega))
  obtain ⟨K,hK⟩:∃ K,N + e.s.length + 60=K:=⟨_,rfl⟩
  obtain ⟨lc,LP⟩:=rlen (ct.length:Int) (by omega) (by omega)
  have LP':=LP K (by omega) 0
  have lo:=lenO_len (ct.length:Int)
  have lo0:lenO (ct.length:Int) ≠ []:=by intro q; rw [q] at lo; simp at lo
  -- the tag's octets,given
  obtain ⟨cap,ex,tg,G⟩:∃ cap ex,(cap=none ∧ ex=false ∨ cap=some (TG.tagO e.c e.k e.n).length ∧ ex=true) ∧ ∀ h,genOf h 1 26=0 → opened [false] false (aRun E K) 26 76 [.agg [.int .u8 e.c,.bool e.k,.int .u32 e.n]] h=some (.ret (.ref (1,26,0) 0 (TG.tagO e.c e.k e.n).length cap),setK h (1,26,0) ⟨bs (TG.tagO e.c e.k e.n),true,true,ex,1,false⟩):=by
    by_cases h31:e.n < 31
    · have e1:(TG.tagO e.c e.k e.n).length=1:=by unfold TG.tagO; rw [if_pos h31]; rfl
      refine ⟨some 1,true,.inr ⟨by rw [e1],rfl⟩,fun h hg => ?_⟩
      rw [e1]
      exact op_give (by decide) rfl (bs_kl _) (fun φ => rnL_pure _ (bs_pure _)) hg (E15.rtag_lo e.c e.k e.n he.cb.1 t3 he.nb.1 h31 K (by omega))
    · exact ⟨none,false,.inl ⟨rfl,rfl⟩,fun h hg => op_give (by decide) rfl (bs_kl _) (fun φ => rnL_pure _ (bs_pure _)) hg (E15.rtag_hi e.c e.k e.n he.cb.1 t3 (by omega) (by omega) K (by omega))⟩
  refine ⟨K + 1,con_ofO E_fn35 (by simp [AV.pureL,El.av_pure]) (Nat.le_of_ble_eq_true rfl) rfl (g:=[]) ?_⟩
  rw [body_35,c35,el]
  obtain ⟨t,ht⟩:∃ t,TG.tagO e.c e.k e.n=t:=⟨_,rfl⟩
  obtain ⟨lo2,hlo⟩:∃ lo2,lenO (ct.length:Int)=lo2:=⟨_,rfl⟩
  rw [ht] at G tg tl lel ⊢
  rw [hlo] at LP' lel lo lo0 ⊢
  have f1:¬ (t.length + lo2.length ≤ t.length):=by omega
  have f2:t.length + lo2.length ≤ 70368744177664:=by omega
  have f3:t.length + (lo2.length + ct.length) ≤ 70368744177664:=by omega
  have f5:t.length + lo2.length + ct.length ≤ 70368744177664:=by omega
  have kl:∀ a b,AV.keysL (bs a ++ bs b)=[]:=fun a b => by rw [← bs_append]; exact bs_kl _
  have f4:e.b.length ≤ 70368744177664:=by omega
  have ls:=El.avs_len e.s
  by_cases hb:e.b=[]
  · have cte:ct=encs (El.cores e.s):=by rw [← hct,hb]; rfl
    obtain ⟨key,kc,kx,hkey,L⟩:=loop0 K e he.sl (fun x hx => ⟨none,fun h => hN x hx K (by omega) 0 h⟩) (by omega) (by omega)
    rw [← cte] at L
    simp [b35,lp,lps,c35,firstReg,S,ec,hb,bs_nil] at L
    rcases hkey with rfl | ⟨m,rfl⟩
    · rcases tg with ⟨rfl,rfl⟩ | ⟨rfl,rfl⟩ <;> simp [El.av_eq,↓s_seq,↓s_reg,↓s_block,↓s_cons,s_nil,s_loop,firstReg,s_val,s_cax,s_ret,s_rgx,s_sqn,s_bke,s_ret',s_finr,s_fin1,s_fix,s_clean,o_tmp,o_int,o_nil,l_hit,l_miss,ol_nil,ol_cons,ol_some,x_move,x_assign,x_callF,cl_no,x_callB,frame0,resL,resA,results1,sealLW,AV.pure,AV.pureL,keepT,x_box,bxx,x_buildSlice,bsx,x_load,ldx,x_fieldAddr,newK,genOf,setK,lookK,fillA,writeL,writeC,readC,conts,TyI.mk1,fieldAddrA,appendA,copyA,builtinA,AV.cells,gcH,reach,keysT,keepK,inKs,AV.keys,AV.keysL,Ty.isAgg,sc_int,sc_bool,sc_sl,sc_mem,bs_pure,bs_kl,bs_length,bs_cells,bs_all,sl_row,sealRow,sealY,sl_int,bs_nil,s_site,s_stxN,s_stxO,hb,G,LP',L,f1,f2,f3,← bs_append,Nat.add_assoc]
    · rcases tg with ⟨rfl,rfl⟩ | ⟨rfl,rfl⟩ <;> simp [El.av_eq,↓s_seq,↓s_reg,↓s_block,↓s_cons,s_nil,s_loop,firstReg,s_val,s_cax,s_ret,s_rgx,s_sqn,s_bke,s_ret',s_finr,s_fin1,s_fix,s_clean,o_tmp,o_int,o_nil,l_hit,l_miss,ol_nil,ol_cons,ol_some,x_move,x_assign,x_callF,cl_no,x_callB,frame0,resL,resA,results1,sealLW,AV.pure,AV.pureL,keepT,x_box,bxx,x_buildSlice,bsx,x_load,ldx,x_fieldAddr,newK,genOf,setK,lookK,fillA,writeL,writeC,readC,conts,TyI.mk1,fieldAddrA,appendA,copyA,builtinA,AV.cells,gcH,reach,keysT,keepK,inKs,AV.keys,AV.keysL,Ty.isAgg,sc_int,sc_bool,sc_sl,sc_mem,bs_pure,bs_kl,bs_length,bs_cells,bs_all,sl_row,sealRow,sealY,sl_int,bs_nil,s_site,s_stxN,s_stxO,hb,G,LP',L,f1,f2,f3,← bs_append,Nat.add_assoc]
  · have hk:e.k=false:=by cases q:e.k; rfl; exact absurd (v2 q) hb
    have es:e.s=[]:=v3 hk
    have cte:ct=e.b:=by rw [← hct,es]; simp [El.cores,encs]
    obtain ⟨K',hK'⟩:∃ K',K=K' + 1:=⟨K - 1,by omega⟩
    have L:aLoop (aCode E (site fn35 (aRun E K)) (dcall (aRun E K)) K 1 fn35 b35) (cleanS 1 ((firstReg b35).bind fn35.head)) K (S e e.s.length (1,8,0) none false e.b)=Fin e (1,8,0) none false e.b:=by
      rw [hK']
      exact aLoop_end (last (K' + 1) (K' + 1) e (1,8,0) none false e.b (.inr (.inl rfl))) (by simp)
    have l0:e.s.length=0:=by rw [es]; rfl
    rw [cte] at LP' f3 f5 ⊢
    simp [b35,lp,lps,c35,firstReg,S,ec,l0] at L
    rcases tg with ⟨rfl,rfl⟩ | ⟨rfl,rfl⟩ <;> simp [El.av_eq,↓s_seq,↓s_reg,↓s_block,↓s_cons,s_nil,s_loop,firstReg,s_val,s_cax,s_ret,s_rgx,s_sqn,s_bke,s_ret',s_finr,s_fin1,s_fix,s_clean,o_tmp,o_int,o_nil,l_hit,l_miss,ol_nil,ol_cons,ol_some,x_move,x_assign,x_callF,cl_no,x_callB,frame0,resL,resA,results1,sealLW,AV.pure,AV.pureL,keepT,x_box,bxx,x_buildSlice,bsx,x_load,ldx,x_fieldAddr,newK,genOf,setK,lookK,fillA,writeL,writeC,readC,conts,TyI.mk1,fieldAddrA,appendA,copyA,builtinA,AV.cells,gcH,reach,keysT,keepK,inKs,AV.keys,AV.keysL,Ty.isAgg,sc_int,sc_bool,sc_sl,sc_mem,bs_pure,bs_kl,bs_length,bs_cells,bs_all,sl_row,sealRow,sealY,sl_int,s_site,s_stxN,s_stxO,hb,G,LP',L,f1,f2,f3,f4,← bs_append,Nat.add_assoc]
end E17
end
section
open Ab Go TabE Sp E13
namespace Sp
mutual
def cnt:Cr → Int
  | .mk _ _ _ _ s => 1 + cnts s
def cnts:List Cr → Int
  | [] => 0
  | x :: r => cnt x + cnts r
end
theorem cnt_eq (e:El):cnt e.core=1 + cnts (El.cores e.s):=by rw [El.core_eq,cnt]
mutual
theorem cnt_pos:∀ c:Cr,1 ≤ cnt c
  | .mk _ _ _ _ s => by unfold cnt; have:=cnts_pos s; omega
theorem cnts_pos:∀ s:List Cr,0 ≤ cnts s
  | [] => by unfold cnts; omega
  | x :: r => by unfold cnts; have:=cnt_pos x; have:=cnts_pos r; omega
end
mutual
theorem cnt_many:∀ (c:Cr) (m:Int),1 ≤ m → many c m ≤ m → cnt c=many c m
  | .mk _ _ _ _ s,m,h0,h => by
    unfold many at h ⊢
    rw [if_neg (by omega)] at h ⊢
    unfold cnt
    rw [cnts_many s m 1 (by omega) (by omega) h]
theorem cnts_many:∀ (s:List Cr) (m n:Int),1 ≤ n → n ≤ m → manys s m n ≤ m → n + cnts s=manys s m n
  | [],m,n,h0,h1,h => by unfold manys cnts; omega
  | x :: r,m,n,h0,h1,h => by
    unfold manys at h ⊢
    rw [if_pos h1] at h ⊢
    unfold cnts
    have b:=many_le x (m - n)
    by_cases q:n + many x (m - n) ≤ m
    · have a:=cnts_many r m (n + many x (m - n)) (by omega) q h
      have c:=cnt_many x (m - n) (by omega) (by omega)
      omega
    · cases r with
      | nil => unfold manys at h; omega
      | cons y r => unfold manys at h; rw [if_neg q] at h; omega
end
mutual
theorem dep_cnt:∀ c:Cr,dep c ≤ cnt c
  | .mk _ _ _ _ s => by unfold dep cnt; have:=deps_cnt s; omega
theorem deps_cnt:∀ s:List Cr,deps s ≤ cnts s
  | [] => by unfold deps cnts; omega
  | x :: r => by unfold deps cnts; have:=dep_cnt x; have:=deps_cnt r; have:=cnt_pos x; have:=cnts_pos r; omega
end
mutual
theorem chk_dep:∀ (c:Cr) (d m l:Int),(chk c d m l).1=0 → (chk c d m l).2.2=max l (d + dep c - 1) ∧ (chk c d m l).2.1=m + cnt c ∧ d ≤ 16
  | .mk c k n b s,d,m,l,h => by
    unfold chk at h ⊢
    unfold dep cnt
    by_cases h1:tagE c k n=0
    case neg => rw [if_pos h1] at h; exact absurd h h1
    rw [if_neg (by simp [h1])] at h ⊢
    by_cases h2:(k=true ∧ b ≠ []) ∨ (k=false ∧ s ≠ [])
    · rw [if_pos h2] at h; cases h
    rw [if_neg h2] at h ⊢
    by_cases h3:16 < d
    · rw [if_pos h3] at h; cases h
    rw [if_neg h3] at h ⊢
    by_cases h4:m=8192
    · rw [if_pos h4] at h; cases h
    rw [if_neg h4] at h ⊢
    have dp:=deps_pos s
    have:=chks_dep s (d + 1) (m + 1) (max l d) (by omega) h
    omega
theorem chks_dep:∀ (s:List Cr) (d m l:Int),d - 1 ≤ l → (chks s d m l).1=0 → (chks s d m l).2.2=max l (d + deps s - 1) ∧ (chks s d m l).2.1=m + cnts s
  | [],d,m,l,hl,_ => by unfold chks deps cnts; simp only; omega
  | x :: r,d,m,l,hl,h => by
    unfold chks at h ⊢
    unfold deps cnts
    by_cases h1:(chk x d m l).1=0
    · rw [if_neg (by simp [h1])] at h ⊢
      have a:=chk_dep x d m l h1
      have b:=chks_dep r d _ _ (by omega) h
      have:=dep_pos x
      have:=deps_pos r
      omega
    · rw [if_pos h1] at h; exact absurd h h1
end
end Sp
namespace E18
inductive Fw (B:Nat):El → Prop
  | mk (e:El):e.b.length ≤ B → (∀ x ∈ e.s,Fw B x) → Fw B e
theorem fw_bd:∀ e:El,Bd e → Fw 200 e:=by
  refine El.ind fun e ih h => ?_
  obtain ⟨_,h1,h2,_⟩:=h
  exact .mk e h1 fun x hx => ih x hx (h2 x hx)
theorem fw_len {B:Nat}:∀ e:El,Fw B e → ((enc e.core).length:Int) ≤ (B + 9) * cnt e.core:=by
  refine El.ind fun e ih h => ?_
  obtain ⟨_,h1,h2⟩:=h
  rw [enc_eq,cnt_eq,List.length_append,List.length_append,List.length_append]
  have tl:=tagO_len e.c e.k e.n
  have ll:=lenO_len ((e.b ++ encs (El.cores e.s)).length:Int)
  have key:∀ l:List El,(∀ x ∈ l,((enc x.core).length:Int) ≤ (B + 9) * cnt x.core) → ((encs (El.cores l)).length:Int) ≤ (B + 9) * cnts (El.cores l):=by
    intro l
    induction l with
    | nil => intro _; simp [El.cores,encs,cnts]
    | cons y l ih =>
      intro q
      rw [El.cores,encs,cnts,List.length_append,Int.mul_add]
      have a:=q y (by simp)
      have b:=ih fun x hx => q x (by simp [hx])
      omega
  have k:=key e.s fun x hx => ih x hx (h2 x hx)
  rw [Int.mul_add,Int.mul_one]
  rw [List.length_append] at ll
  omega
theorem fw_sm {B:Nat} (hB:B ≤ 1000000000):∀ e:El,Fw B e → cnt e.core ≤ 1000000000 → e.sm:=by
  refine El.ind fun e ih h hc => ?_
  obtain ⟨_,h1,h2⟩:=h
  rw [cnt_eq] at hc
  have key:∀ l:List El,(l.length:Int) ≤ cnts (El.cores l) ∧ ∀ x ∈ l,cnt x.core ≤ cnts (El.cores l):=by
    intro l
    induction l with
    | nil => simp [El.cores,cnts]
    | cons y l ih =>
      rw [El.cores,cnts]
      have:=cnt_pos y.core
      have:=cnts_pos (El.cores l)
      refine ⟨by rw [List.length_cons]; omega,fun x hx => ?_⟩
      rcases List.mem_cons.1 hx with rfl | hx
      · omega
      · have:=ih.2 x hx; omega
  obtain ⟨k1,k2⟩:=key e.s
  exact (El.sm_eq e).2 ⟨by omega,by omega,fun x hx => ih x hx (h2 x hx) (by have:=k2 x hx; omega)⟩
end E18
end
section
open Ab Go TabE
attribute [local simp ↓] s_seq s_reg s_regd s_cond s_block s_cons s_consG
attribute [local simp] s_nil s_loop s_round s_lpn s_lpe s_lpr firstReg s_gt s_gf s_wb s_wu s_val s_valN s_skip s_calls s_callP s_cax lookR flatR pureKs s_ret s_rgx s_sqn s_sqr s_sqe s_cdb s_bkn s_bkr s_bke s_exit s_ret' s_skip' s_finr s_finn s_fin1 s_fix s_clean s_gc0 o_tmp o_int o_bool o_nil o_str o_fn o_nil' l_hit l_miss l_nil ol_nil ol_cons ol_some x_move x_assign x_pick pk_t pk_f x_bin bn_s x_un x_extract x_callF cl_no x_callB x_callBF frzV x_conv cvx convA frame0 binA intOp resL resA results1 sealLW AV.pure AV.pureL keepT x_alloc x_box bxx x_build bdx x_buildSlice bsx x_buildSliceF bsf x_load ldx x_store stx x_slice slx x_fieldAddr x_field x_index ixx x_indexAddr iax x_makeSlice msx x_makeSliceF msf x_nilCheck newK genOf setK lookK fillA writeL writeC readC conts TyI.mk1 sliceA boundsA boundsB fitsA numA indexAddrA fieldAddrA partA fieldA indexA appendA copyA builtinA AV.cells chunk gcH reach keysT keepK inKs AV.keys AV.keysL Ty.isAgg eq1 eqL convA.go ltI w_u8 w_u32 w_u64 w_i64 w_fdiv w_tdiv w_tmod IntKind.bits unA sc_int sc_bool sc_str sc_sl sc_ref sc_ptr sc_pel sc_nilp sc_fn sc_nilf sc_if sc_nili sc_agg sc_tup sc_mem bs_pure bs_kl bs_length bs_cells bs_all sl_row sealRow sealY sl_int sl_bool sl_str sl_sl sl_nilp sl_nilf sl_nili sl_pel sl_agg sl_tup sl_fn sl_if nat_1 bs_cons bs_nil i_beq i_bne x_mkF x_mkI x_tassert x_panic s_pan s_sqp s_bkp s_finp s_fixp s_lpp s_rgp s_retp s_site s_stxN s_stxO x_callT clx
section
open Ab Go TabE Sp
namespace E20
def tn (c k n:Int):Int:=if tagE (c % 4) (decide (k % 2=1)) (n % 268435456)=0 then n % 268435456 else 4
theorem tn_b (c k n:Int) (hn:0 ≤ n):0 ≤ tn c k n ∧ tn c k n ≤ 268435455:=by unfold tn; split <;> omega
theorem tn_ok (c k n:Int) (hc:0 ≤ c) (hn:0 ≤ n):tagE (c % 4) (decide (k % 2=1)) (tn c k n)=0:=by
  unfold tn
  split
  · assumption
  · unfold tagE
    rw [if_neg (by omega),if_neg (by simp)]
theorem of (c k n:Int) (hc:0 ≤ c ∧ c < 256) (hk:0 ≤ k ∧ k < 256) (hn:0 ≤ n ∧ n < 4294967296):Con E 20 71 [.agg [.int .u8 c,.int .u8 k,.int .u32 n]] (.agg [.int .u8 (c % 4),.bool (decide (k % 2=1)),.int .u32 (tn c k n)]):=by
  have t:=E2.ref_ok (c % 4) (decide (k % 2=1)) (n % 268435456) 19 (by omega) 0
  refine con_of E_fn71 rfl (Nat.le_of_ble_eq_true rfl) rfl rfl (g:=[]) ?_
  rw [body_71,c71]
  have t1:Int.tmod c 4=c % 4:=Int.tmod_eq_emod_of_nonneg hc.1
  have t2:Int.tmod k 2=k % 2:=Int.tmod_eq_emod_of_nonneg hk.1
  have t3:Int.tmod n 268435456=n % 268435456:=Int.tmod_eq_emod_of_nonneg hn.1
  unfold tn
  by_cases h:tagE (c % 4) (decide (k % 2=1)) (n % 268435456)=0
  · simp [t,t1,t2,t3,h]
  · simp [t,t1,t2,t3,h]
end E20
end
end
section
open Ab Go TabE Sp
namespace Ab
namespace El
def fl:List El → List AV
  | [] => []
  | e :: r => ec e ++ fl r
theorem fl_app:∀ a b,fl (a ++ b)=fl a ++ fl b
  | [],b => rfl
  | e :: a,b => by simp only [List.cons_append,fl,fl_app a b,List.append_assoc]
theorem fl_snoc (a:List El) (e:El):fl (a ++ [e])=fl a ++ [.int .u8 e.c,.bool e.k,.int .u32 e.n,.sl e.fb (bs e.b) e.cb,.sl e.fs (avs e.s) e.cs]:=by rw [fl_app]; rfl
theorem fl_one (e:El):fl [e]=[.int .u8 e.c,.bool e.k,.int .u32 e.n,.sl e.fb (bs e.b) e.cb,.sl e.fs (avs e.s) e.cs]:=rfl
theorem fl_mk1 (c k n fb b cb fs s cs):fl [El.mk c k n fb b cb fs s cs]=[.int .u8 c,.bool k,.int .u32 n,.sl fb (bs b) cb,.sl fs (avs s) cs]:=rfl
theorem fl_mkS (a:List El) (c k n fb b cb fs s cs):fl (a ++ [El.mk c k n fb b cb fs s cs])=fl a ++ [.int .u8 c,.bool k,.int .u32 n,.sl fb (bs b) cb,.sl fs (avs s) cs]:=by rw [fl_app]; rfl
theorem chk_bs (y:List Int):chunk false 1 y.length (bs y)=bs y:=by
  have:=chunk_one (bs y)
  rwa [bs_len] at this
theorem fl_len:∀ l,(fl l).length=l.length * 5
  | [] => rfl
  | e :: r => by simp only [fl,List.length_append,fl_len r,List.length_cons,ec]; simp; omega
theorem fl_pure:∀ l,AV.pureL (fl l)=true
  | [] => rfl
  | e :: r => by simp only [fl,ec,List.cons_append,List.nil_append,AV.pureL,AV.pure,Bool.and_self,fl_pure r]
theorem fl_keys (l):AV.keysL (fl l)=[]:=AV.keysL_pure _ (fl_pure l)
theorem keysL_app:∀ a b:List AV,AV.keysL (a ++ b)=AV.keysL a ++ AV.keysL b
  | [],b => rfl
  | x :: a,b => by simp only [List.cons_append,AV.keysL,keysL_app a b,List.append_assoc]
theorem fl_keysr (l) (r:List AV):AV.keysL (fl l ++ r)=AV.keysL r:=by rw [keysL_app,fl_keys]; rfl
theorem fl_drop:∀ (k:Nat) (l:List El),(fl l).drop (k * 5)=fl (l.drop k)
  | 0,l => by simp
  | k + 1,[] => by simp [fl]
  | k + 1,e :: r => by
    have:(k + 1) * 5=k * 5 + 5:=by omega
    rw [List.drop_succ_cons,← fl_drop k r,this,fl]
    rfl
theorem fl_take:∀ (k:Nat) (l:List El),(fl l).take (k * 5)=fl (l.take k)
  | 0,l => by simp [fl]
  | k + 1,[] => by simp [fl]
  | k + 1,e :: r => by
    have:(k + 1) * 5=k * 5 + 5:=by omega
    rw [List.take_succ_cons]
    show (ec e ++ fl r).take _=ec e ++ fl (r.take k)
    rw [← fl_take k r,this]
    rfl
theorem fl_chunk:∀ (l:List El),chunk true 5 l.length (fl l)=avs l
  | [] => rfl
  | e :: r => by
    rw [List.length_cons,chunk,avs,av_eq,← fl_chunk r]
    rfl
theorem fl_scal:∀ l,(fl l).all AV.scal=true
  | [] => rfl
  | e :: r => by rw [fl,List.all_append,fl_scal r]; rfl
theorem fl_mem (l):(∀ x ∈ fl l,x.scal=true)=True:=by
  simp only [eq_iff_iff,iff_true]
  exact List.all_eq_true.1 (fl_scal l)
end El
end Ab
end
section
open Ab Go TabE Sp E20
namespace E22
structure G where
  a:Int
  b:Int
  c:Int
  k:Int
  n:Int
  f:Bool
  x:List Int
  q:Option Nat
def G.av (g:G):AV:=.agg [.int .u8 g.a,.int .u8 g.b,.int .u8 g.c,.int .u8 g.k,.int .u32 g.n,.sl g.f (bs g.x) g.q]
def G.ok (g:G):Prop:=(0 ≤ g.a ∧ g.a < 256) ∧ (0 ≤ g.b ∧ g.b < 256) ∧ (0 ≤ g.c ∧ g.c < 256) ∧ (0 ≤ g.k ∧ g.k < 256) ∧ (0 ≤ g.n ∧ g.n < 4294967296) ∧ isB g.x ∧ g.x.length ≤ 9223372036854775807
def leaf (g:G):El:=.mk (g.c % 4) false (tn g.c 0 g.n) (decide (g.x=[])) (g.x.take 20) (if g.x=[] then some 0 else none) true [] (some 0)
def b22:Code:=lp c22 0
abbrev Z:List AV:=[.int .u8 0,.bool false,.int .u32 0,.sl true [] (some 0),.sl true [] (some 0)]
abbrev S0 (f:Bool) (gs:List AV) (q:Option Nat) (i:Nat):St:=⟨[(1,.ptr (1,1,0) 0),(2,.ptr (1,2,0) 0),(3,.sl true [] (some 0)),(4,.int .i64 (i:Int))],[((1,1,0),bx [.sl f gs q]),((1,2,0),bx Z)]⟩
abbrev S (f:Bool) (gs:List AV) (q:Option Nat) (key:Key) (st:List El) (i:Nat):St:=⟨[(1,.ptr (1,1,0) 0),(2,.ptr (1,2,0) 0),(3,.ref key 0 st.length none),(4,.int .i64 (i:Int))],[((1,1,0),bx [.sl f gs q]),((1,2,0),bx Z),(key,⟨El.fl st,true,true,false,5,true⟩)]⟩
theorem at_ (f q) (l:List G) (i:Nat) (g:G) (h:l[i]? = some g):∀ hp,indexAddrA E 38 (.sl f (l.map G.av) q) (.int .i64 i) hp=some (.pel [.int .u8 g.a,.int .u8 g.b,.int .u8 g.c,.int .u8 g.k,.int .u32 g.n,.sl g.f (bs g.x) g.q]):=by
  intro hp
  have hi:i < l.length:=(List.getElem?_eq_some_iff.1 h).1
  unfold indexAddrA
  simp only [E_ty38,E_ty107]
  rw [if_pos ⟨by omega,by rw [List.length_map]; omega⟩]
  simp only [Int.toNat_natCast,List.getElem?_map,h,Option.map_some]
  rfl
theorem cut (f q) (x:List Int) (h:Heap) (lx:x.length ≤ 9223372036854775807):sliceA E 22 (.sl f (bs x) q) none (some (.int .i64 (if (x.length:Int) < 20 then (x.length:Int) else 20))) none h=some (.sl f (bs (x.take 20)) q):=by
  obtain ⟨m,hm,h1,h2⟩:∃ m:Nat,(if (x.length:Int) < 20 then (x.length:Int) else 20)=m ∧ m ≤ x.length ∧ x.take m=x.take 20:=by
    by_cases h:x.length < 20
    · exact ⟨x.length,by rw [if_pos (by omega)],Nat.le_refl _,by rw [List.take_length,List.take_of_length_le (by omega)]⟩
    · exact ⟨20,by rw [if_neg (by omega)]; rfl,by omega,rfl⟩
  rw [hm]
  have t:(bs x).take m=bs (x.take 20):=by rw [← h2]; simp [bs,List.map_take]
  simp [sliceA,boundsA,fitsA,numA,boundsB,h1,t,bs_length]
theorem leaf0 (q0 k1:Nat) (f q) (l:List G) (i:Nat) (g:G) (hg:g.ok) (hx:l[i]? = some g) (hi:i < 39) (ha:g.a % 3=0) (ll:l.length ≤ 9223372036854775807)
    (T:∀ h,aCall E q0 0 71 [.agg [.int .u8 g.c,.int .u8 0,.int .u32 g.n]] h=some (.ret (.agg [.int .u8 (g.c % 4),.bool false,.int .u32 (tn g.c 0 g.n)]),h)) :
    rndO fn22 b22 q0 k1 (S0 f (l.map G.av) q i)=some (.normal,S f (l.map G.av) q (1,49,0) [leaf g] (i + 1)):=by
  have hl:i < l.length:=(List.getElem?_eq_some_iff.1 hx).1
  have ix:=at_ f q l i g hx
  have w:=w64' ((i:Int) + 1) (by omega) (by omega)
  have m1:Int.tmod g.a 3=0:=by rw [Int.tmod_eq_emod_of_nonneg hg.1.1]; exact ha
  have i39:(i:Int) < 39:=by omega
  have lx:=hg.2.2.2.2.2.2
  have sb:=fun h => cut g.f g.q g.x h lx
  by_cases e:g.x=[]
  · have lf:leaf g=.mk (g.c % 4) false (tn g.c 0 g.n) true [] (some 0) true [] (some 0):=by unfold leaf; rw [e]; simp
    simp [e,bs_nil] at sb
    rw [lf]
    simp [b22,lp,lps,c22,↓s_seq,↓s_reg,↓s_cond,↓s_block,↓s_cons,↓s_consG,s_nil,firstReg,s_gt,s_wb,s_val,s_skip,s_cax,s_ret,s_rgx,s_sqn,s_sqe,s_cdb,s_bke,s_exit,s_skip',s_clean,o_tmp,o_int,l_hit,l_miss,ol_nil,ol_cons,ol_some,x_move,x_assign,x_pick,pk_t,x_bin,bn_s,x_callF,cl_no,x_callB,x_callBF,frzV,binA,intOp,sealLW,AV.pure,AV.pureL,keepT,x_alloc,x_build,bdx,x_buildSlice,bsx,x_load,ldx,x_store,stx,x_slice,slx,x_fieldAddr,x_indexAddr,iax,newK,genOf,setK,lookK,fillA,writeL,writeC,readC,conts,TyI.mk1,fieldAddrA,appendA,copyA,builtinA,AV.cells,gcH,reach,keysT,keepK,inKs,AV.keys,AV.keysL,Ty.isAgg,sc_int,sc_bool,sc_sl,sl_agg,bs_nil,s_site,s_stxN,↓s_regD,s_rgy,barOf,dynChk,ix,w,hl,i39,m1,T,sb,e,El.fl_mk1,El.avs]
  · have lf:leaf g=.mk (g.c % 4) false (tn g.c 0 g.n) false (g.x.take 20) none true [] (some 0):=by unfold leaf; simp [e]
    rw [lf]
    have e20:(g.x.take 20).length ≤ 20:=by rw [List.length_take]; omega
    have z:(g.x.take 20).length ≠ 0:=by rw [List.length_take]; have:g.x.length ≠ 0:=fun h => e (List.length_eq_zero_iff.1 h); omega
    obtain ⟨y,hy⟩:∃ y,g.x.take 20=y:=⟨_,rfl⟩
    rw [hy] at sb e20 z ⊢
    have z':y ≠ []:=fun h => z (by rw [h]; rfl)
    have cp:y.length ≤ 70368744177664:=by omega
    simp [b22,lp,lps,c22,↓s_seq,↓s_reg,↓s_cond,↓s_block,↓s_cons,↓s_consG,s_nil,firstReg,s_gt,s_wb,s_val,s_skip,s_cax,s_ret,s_rgx,s_sqn,s_sqe,s_cdb,s_bke,s_exit,s_skip',s_clean,o_tmp,o_int,l_hit,l_miss,ol_nil,ol_cons,ol_some,x_move,x_assign,x_pick,pk_t,x_bin,bn_s,x_callF,cl_no,x_callB,x_callBF,frzV,binA,intOp,sealLW,AV.pure,AV.pureL,keepT,x_alloc,x_build,bdx,x_buildSlice,bsx,x_load,ldx,x_store,stx,x_slice,slx,x_fieldAddr,x_indexAddr,iax,newK,genOf,setK,lookK,fillA,writeL,writeC,readC,conts,TyI.mk1,fieldAddrA,appendA,copyA,builtinA,AV.cells,gcH,reach,keysT,keepK,inKs,AV.keys,AV.keysL,Ty.isAgg,sc_int,sc_bool,sc_sl,sc_mem,bs_pure,bs_length,bs_cells,bs_all,sl_agg,s_site,s_stxN,↓s_regD,s_rgy,barOf,dynChk,ix,w,hl,i39,m1,T,sb,z,cp,El.fl_mk1,El.chk_bs,El.avs]
theorem leafR (key:Key) (st:List El) (hst:st.length ≤ 39) (hkey:∃ m,key=(1,49,m) ∨ key=(1,92,m)) (q0 k1:Nat) (f q) (l:List G) (i:Nat) (g:G) (hg:g.ok) (hx:l[i]? = some g) (hi:i < 39) (ha:g.a % 3=0) (ll:l.length ≤ 9223372036854775807)
    (T:∀ h,aCall E q0 0 71 [.agg [.int .u8 g.c,.int .u8 0,.int .u32 g.n]] h=some (.ret (.agg [.int .u8 (g.c % 4),.bool false,.int .u32 (tn g.c 0 g.n)]),h)) :
    rndO fn22 b22 q0 k1 (S f (l.map G.av) q key st i)=some (.normal,S f (l.map G.av) q (1,49,if key.2.1=49 then key.2.2 + 1 else 0) (st ++ [leaf g]) (i + 1)):=by
  have hl:i < l.length:=(List.getElem?_eq_some_iff.1 hx).1
  have ix:=at_ f q l i g hx
  have w:=w64' ((i:Int) + 1) (by omega) (by omega)
  have m1:Int.tmod g.a 3=0:=by rw [Int.tmod_eq_emod_of_nonneg hg.1.1]; exact ha
  have i39:(i:Int) < 39:=by omega
  have lx:=hg.2.2.2.2.2.2
  have sb:=fun h => cut g.f g.q g.x h lx
  have cs5:(st.length + 1) * 56 ≤ 70368744177664:=by omega
  have f1:=El.fl_len st
  have f2:=El.fl_keys st
  have f3:(El.fl st).take (st.length * 5)=El.fl st:=by rw [El.fl_take,List.take_length]
  have f4:=El.fl_pure st
  have f5:=El.fl_scal st
  by_cases e:g.x=[]
  · have lf:leaf g=.mk (g.c % 4) false (tn g.c 0 g.n) true [] (some 0) true [] (some 0):=by unfold leaf; rw [e]; simp
    simp [e,bs_nil] at sb
    rw [lf]
    obtain ⟨m,rfl | rfl⟩:=hkey <;> simp [b22,lp,lps,c22,↓s_seq,↓s_reg,↓s_cond,↓s_block,↓s_cons,↓s_consG,s_nil,firstReg,s_gt,s_wb,s_val,s_skip,s_cax,s_ret,s_rgx,s_sqn,s_sqe,s_cdb,s_bke,s_exit,s_skip',s_clean,o_tmp,o_int,l_hit,l_miss,ol_nil,ol_cons,ol_some,x_move,x_assign,x_pick,pk_t,x_bin,bn_s,x_callF,cl_no,x_callB,x_callBF,frzV,binA,intOp,sealLW,AV.pure,AV.pureL,keepT,x_alloc,x_build,bdx,x_buildSlice,bsx,x_load,ldx,x_store,stx,x_slice,slx,x_fieldAddr,x_indexAddr,iax,newK,genOf,setK,lookK,fillA,writeL,writeC,readC,conts,TyI.mk1,fieldAddrA,appendA,copyA,builtinA,AV.cells,gcH,reach,keysT,keepK,inKs,AV.keys,AV.keysL,Ty.isAgg,sc_int,sc_bool,sc_sl,sl_agg,bs_nil,s_site,s_stxN,↓s_regD,s_rgy,barOf,dynChk,ix,w,hl,i39,m1,T,sb,e,El.fl_mkS,f1,f2,cs5,El.fl_keysr,El.avs]
  · have lf:leaf g=.mk (g.c % 4) false (tn g.c 0 g.n) false (g.x.take 20) none true [] (some 0):=by unfold leaf; simp [e]
    rw [lf]
    have e20:(g.x.take 20).length ≤ 20:=by rw [List.length_take]; omega
    have z:(g.x.take 20).length ≠ 0:=by rw [List.length_take]; have:g.x.length ≠ 0:=fun h => e (List.length_eq_zero_iff.1 h); omega
    obtain ⟨y,hy⟩:∃ y,g.x.take 20=y:=⟨_,rfl⟩
    rw [hy] at sb e20 z ⊢
    have z':y ≠ []:=fun h => z (by rw [h]; rfl)
    have cp:y.length ≤ 70368744177664:=by omega
    obtain ⟨m,rfl | rfl⟩:=hkey <;> simp [b22,lp,lps,c22,↓s_seq,↓s_reg,↓s_cond,↓s_block,↓s_cons,↓s_consG,s_nil,firstReg,s_gt,s_wb,s_val,s_skip,s_cax,s_ret,s_rgx,s_sqn,s_sqe,s_cdb,s_bke,s_exit,s_skip',s_clean,o_tmp,o_int,l_hit,l_miss,ol_nil,ol_cons,ol_some,x_move,x_assign,x_pick,pk_t,x_bin,bn_s,x_callF,cl_no,x_callB,x_callBF,frzV,binA,intOp,sealLW,AV.pure,AV.pureL,keepT,x_alloc,x_build,bdx,x_buildSlice,bsx,x_load,ldx,x_store,stx,x_slice,slx,x_fieldAddr,x_indexAddr,iax,newK,genOf,setK,lookK,fillA,writeL,writeC,readC,conts,TyI.mk1,fieldAddrA,appendA,copyA,builtinA,AV.cells,gcH,reach,keysT,keepK,inKs,AV.keys,AV.keysL,Ty.isAgg,sc_int,sc_bool,sc_sl,sc_mem,bs_pure,bs_length,bs_cells,bs_all,sl_agg,s_site,s_stxN,↓s_regD,s_rgy,barOf,dynChk,ix,w,hl,i39,m1,T,sb,z,cp,El.fl_mkS,El.chk_bs,f1,f2,cs5,El.fl_keysr,El.avs]
end E22
end
section
open Ab Go TabE
attribute [local simp ↓] s_seq s_reg s_regd s_cond s_block s_cons s_consG s_regD
attribute [local simp] s_nil s_loop s_round s_lpn s_lpe s_lpr firstReg s_gt s_gf s_wb s_wu s_val s_valN s_skip s_calls s_callP s_cax lookR flatR pureKs s_ret s_rgx s_sqn s_sqr s_sqe s_cdb s_bkn s_bkr s_bke s_exit s_ret' s_skip' s_finr s_finn s_fin1 s_fix s_clean s_gc0 o_tmp o_int o_bool o_nil o_str o_fn o_nil' l_hit l_miss l_nil ol_nil ol_cons ol_some x_move x_assign x_pick pk_t pk_f x_bin bn_s x_un x_extract x_callF cl_no x_callB x_callBF frzV x_conv cvx convA frame0 binA intOp resL resA results1 sealLW AV.pure AV.pureL keepT x_alloc x_box bxx x_build bdx x_buildSlice bsx x_buildSliceF bsf x_load ldx x_store stx x_slice slx x_fieldAddr x_field x_index ixx x_indexAddr iax x_makeSlice msx x_makeSliceF msf x_nilCheck newK genOf setK lookK fillA writeL writeC readC conts TyI.mk1 sliceA boundsA boundsB fitsA numA indexAddrA fieldAddrA partA fieldA indexA appendA copyA builtinA AV.cells chunk gcH reach keysT keepK inKs AV.keys AV.keysL Ty.isAgg eq1 eqL convA.go ltI w_u8 w_u32 w_u64 w_i64 w_fdiv w_tdiv w_tmod IntKind.bits unA sc_int sc_bool sc_str sc_sl sc_ref sc_ptr sc_pel sc_nilp sc_fn sc_nilf sc_if sc_nili sc_agg sc_tup sc_mem bs_pure bs_kl bs_length bs_cells bs_all sl_row sealRow sealY sl_int sl_bool sl_str sl_sl sl_nilp sl_nilf sl_nili sl_pel sl_agg sl_tup sl_fn sl_if nat_1 bs_cons bs_nil i_beq i_bne x_mkF x_mkI x_tassert x_panic s_pan s_sqp s_bkp s_finp s_fixp s_lpp s_rgp s_retp s_site s_stxN s_stxO x_callT clx El.avs_len s_dyn0 s_rgy barOf dynChk footL dynOK disjK keysOp opVals Op.operands
section
open Ab Go TabE Sp E20 E22
namespace E23
abbrev nd (g:G) (d:List El):El:=.mk (g.c % 4) true (tn g.c 1 g.n) true [] (some 0) (decide (d=[])) d (if d=[] then some 0 else none)
def kk (g:G) (n:Nat):Nat:=if g.a % 3=2 then n else min (g.b % 5).toNat n
theorem node0 (q0 k1:Nat) (f q) (l:List G) (i:Nat) (g:G) (hg:g.ok) (hx:l[i]? = some g) (hi:i < 39) (ha:g.a % 3 ≠ 0) (ll:l.length ≤ 9223372036854775807)
    (T:∀ h,aCall E q0 0 71 [.agg [.int .u8 g.c,.int .u8 1,.int .u32 g.n]] h=some (.ret (.agg [.int .u8 (g.c % 4),.bool true,.int .u32 (tn g.c 1 g.n)]),h))
    (D:∀ h,aCall E q0 0 40 [(nd g []).av] h=some (.ret (.int .i64 1),h)) :
    rndO fn22 b22 q0 k1 (S0 f (l.map G.av) q i)=some (.normal,S f (l.map G.av) q (1,92,0) [nd g []] (i + 1)):=by
  have hl:i < l.length:=(List.getElem?_eq_some_iff.1 hx).1
  have ix:=at_ f q l i g hx
  have w:=w64' ((i:Int) + 1) (by omega) (by omega)
  have m1:¬ Int.tmod g.a 3=0:=by rw [Int.tmod_eq_emod_of_nonneg hg.1.1]; exact ha
  have m2:Int.tmod g.a 3=g.a % 3:=Int.tmod_eq_emod_of_nonneg hg.1.1
  have m3:Int.tmod g.b 5=g.b % 5:=Int.tmod_eq_emod_of_nonneg hg.2.1.1
  have w5:=w64' (g.b % 5) (by omega) (by omega)
  have i39:(i:Int) < 39:=by omega
  have mn:(if (0:Int) < g.b % 5 then (0:Int) else g.b % 5)=0:=by split <;> omega
  rw [El.av_eq] at D
  simp [El.c,El.k,El.n,El.fb,El.b,El.cb,El.fs,El.s,El.cs,El.avs,bs_nil] at D
  by_cases h2:g.a % 3=2
  · simp [b22,lp,lps,c22,Call.operands,-indexAddrA,ix,w,hl,i39,m2,m3,ha,h2,w5,mn,T,D,hi,El.fl_mk1,El.avs]
  · simp [b22,lp,lps,c22,Call.operands,-indexAddrA,ix,w,hl,i39,m2,m3,ha,h2,w5,mn,T,D,hi,El.fl_mk1,El.avs]
theorem nodeA (key:Key) (st:List El) (hst:st.length ≤ 39) (hne:st.length ≠ 0) (hkey:∃ m,key=(1,49,m) ∨ key=(1,92,m)) (k p:Nat) (hkp:st.length=k + p) (hk:k=st.length)
    (q0 k1:Nat) (f q) (l:List G) (i:Nat) (g:G) (hg:g.ok) (hx:l[i]? = some g) (hi:i < 39) (ha:g.a % 3 ≠ 0) (ll:l.length ≤ 9223372036854775807) (h2:g.a % 3=2) (dd:Int)
    (T:∀ h,aCall E q0 0 71 [.agg [.int .u8 g.c,.int .u8 1,.int .u32 g.n]] h=some (.ret (.agg [.int .u8 (g.c % 4),.bool true,.int .u32 (tn g.c 1 g.n)]),h))
    (D:∀ h,aCall E q0 0 40 [(nd g (st.drop p)).av] h=some (.ret (.int .i64 dd),h)) :
    ∃ key',(∃ m,key'=(1,49,m) ∨ key'=(1,92,m)) ∧ rndO fn22 b22 q0 k1 (S f (l.map G.av) q key st i)=some (.normal,S f (l.map G.av) q key' (if dd < 15 then st.take p ++ [nd g (st.drop p)] else st) (i + 1)):=by
  have hl:i < l.length:=(List.getElem?_eq_some_iff.1 hx).1
  have ix:=at_ f q l i g hx
  have w:=w64' ((i:Int) + 1) (by omega) (by omega)
  have m1:¬ Int.tmod g.a 3=0:=by rw [Int.tmod_eq_emod_of_nonneg hg.1.1]; exact ha
  have m2:Int.tmod g.a 3=g.a % 3:=Int.tmod_eq_emod_of_nonneg hg.1.1
  have m3:Int.tmod g.b 5=g.b % 5:=Int.tmod_eq_emod_of_nonneg hg.2.1.1
  have w5:=w64' (g.b % 5) (by omega) (by omega)
  have i39:(i:Int) < 39:=by omega
  obtain rfl:p=0:=by omega
  have kl:k=st.length:=by omega
  have w2:IntKind.i64.wrap ((st.length:Int) - (st.length:Int))=0:=by rw [Int.sub_self]; rfl
  have d0:st.drop 0=st:=rfl
  have ne:st ≠ []:=fun h => hne (by rw [h]; rfl)
  rw [d0] at D ⊢
  rw [El.av_eq] at D
  simp [El.c,El.k,El.n,El.fb,El.b,El.cb,El.fs,El.s,El.cs,El.avs,bs_nil,ne] at D
  have f1:=El.fl_len st
  have f2:=El.fl_keys st
  have f3:(El.fl st).take (st.length * 5)=El.fl st:=by rw [El.fl_take,List.take_length]
  have f4:=El.fl_pure st
  have f5:=El.fl_scal st
  have f6:=El.fl_chunk st
  have cp:st.length * 56 ≤ 70368744177664:=by omega
  have ne2:¬ (0=st.length):=fun h => hne h.symm
  have ne3:¬ (st.length ≤ 0):=by omega
  by_cases dp:dd < 15
  · rw [if_pos dp]
    refine ⟨(1,92,if key.2.1=92 then key.2.2 + 1 else 0),⟨_,.inr rfl⟩,?_⟩
    obtain ⟨m,rfl | rfl⟩:=hkey <;> simp [b22,lp,lps,c22,Call.operands,-indexAddrA,ix,w,hl,i39,m2,m3,ha,h2,w5,w2,T,D,hi,dp,ne,ne2,ne3,hne,f1,f2,f3,f4,f5,f6,cp,El.fl_mk1,El.avs,El.fl_keysr,El.fl_mem]
  · rw [if_neg dp]
    refine ⟨key,hkey,?_⟩
    obtain ⟨m,rfl | rfl⟩:=hkey <;> simp [b22,lp,lps,c22,Call.operands,-indexAddrA,ix,w,hl,i39,m2,m3,ha,h2,w5,w2,T,D,hi,dp,ne,ne2,ne3,hne,f1,f2,f3,f4,f5,f6,cp,El.fl_mk1,El.avs,El.fl_keysr,El.fl_mem]
end E23
end
section
open Ab Go TabE Sp E20 E22 E23
namespace E25
theorem nodeD (key:Key) (st:List El) (hst:st.length ≤ 39) (hne:st.length ≠ 0) (hkey:∃ m,key=(1,49,m) ∨ key=(1,92,m)) (k p:Nat) (hkp:st.length=k + p) (hk:0 < k ∧ 0 < p)
    (q0 k1:Nat) (f q) (l:List G) (i:Nat) (g:G) (hg:g.ok) (hx:l[i]? = some g) (hi:i < 39) (ha:g.a % 3 ≠ 0) (ll:l.length ≤ 9223372036854775807) (h2:g.a % 3 ≠ 2 ∧ (if (st.length:Int) < g.b % 5 then (st.length:Int) else g.b % 5)=(k:Int)) (dd:Int)
    (T:∀ h,aCall E q0 0 71 [.agg [.int .u8 g.c,.int .u8 1,.int .u32 g.n]] h=some (.ret (.agg [.int .u8 (g.c % 4),.bool true,.int .u32 (tn g.c 1 g.n)]),h))
    (D:∀ h,aCall E q0 0 40 [(nd g (st.drop p)).av] h=some (.ret (.int .i64 dd),h)) :
    ∃ key',(∃ m,key'=(1,49,m) ∨ key'=(1,92,m)) ∧ rndO fn22 b22 q0 k1 (S f (l.map G.av) q key st i)=some (.normal,S f (l.map G.av) q key' (if dd < 15 then st.take p ++ [nd g (st.drop p)] else st) (i + 1)):=by
  have hl:i < l.length:=(List.getElem?_eq_some_iff.1 hx).1
  have ix:=at_ f q l i g hx
  have w:=w64' ((i:Int) + 1) (by omega) (by omega)
  have m2:Int.tmod g.a 3=g.a % 3:=Int.tmod_eq_emod_of_nonneg hg.1.1
  have m3:Int.tmod g.b 5=g.b % 5:=Int.tmod_eq_emod_of_nonneg hg.2.1.1
  have w5:=w64' (g.b % 5) (by omega) (by omega)
  have i39:(i:Int) < 39:=by omega
  have ne:st ≠ []:=fun h => hne (by rw [h]; rfl)
  have cp:st.length * 56 ≤ 70368744177664:=by omega
  obtain ⟨a,ha'⟩:∃ a,st.take p=a:=⟨_,rfl⟩
  obtain ⟨d,hd⟩:∃ d,st.drop p=d:=⟨_,rfl⟩
  have la:a.length=p:=by rw [← ha',List.length_take]; omega
  have ld:d.length=k:=by rw [← hd,List.length_drop]; omega
  rw [hd] at D ⊢
  rw [ha']
  have w2:IntKind.i64.wrap ((st.length:Int) - (k:Int))=(p:Int):=by rw [w64' _ (by omega) (by omega)]; omega
  have f1:=El.fl_len st
  have f2:=El.fl_keys st
  have fa:=El.fl_len a
  have fd:=El.fl_len d
  have f3:(El.fl st).take (p * 5)=El.fl a:=by rw [El.fl_take,ha']
  have f7:(El.fl st).drop (p * 5)=El.fl d:=by rw [El.fl_drop,hd]
  have fk:st.length - p=k:=by omega
  have f8:(El.fl d).take (k * 5)=El.fl d:=by rw [← ld,El.fl_take,List.take_length]
  have f9:(El.fl a).take (p * 5)=El.fl a:=by rw [← la,El.fl_take,List.take_length]
  have fa2:=El.fl_keys a
  have fd2:=El.fl_keys d
  have f4:=El.fl_pure d
  have f6:chunk true 5 k (El.fl d)=El.avs d:=by rw [← ld]; exact El.fl_chunk d
  have cp1:k * 56 ≤ 70368744177664:=by omega
  have cp2:p * 56 ≤ 70368744177664:=by omega
  have cp3:(p + 1) * 56 ≤ 70368744177664:=by omega
  have g1:p * 5 + k * 5=st.length * 5:=by omega
  have g2:¬ (k=0):=by omega
  have g3:¬ (p=0):=by omega
  have g4:¬ (st.length=p):=by omega
  have g5:p ≤ st.length:=by omega
  have g6:¬ (k ≤ 0):=by omega
  have g7:¬ (p ≤ 0):=by omega
  have g8:p * 5 ≤ st.length * 5:=by omega
  have dne:d ≠ []:=fun h => g2 (by rw [← ld,h]; rfl)
  rw [El.av_eq] at D
  simp [El.c,El.k,El.n,El.fb,El.b,El.cb,El.fs,El.s,El.cs,El.avs,bs_nil,dne] at D
  by_cases dp:dd < 15
  · rw [if_pos dp]
    refine ⟨(1,92,if key.2.1=92 then key.2.2 + 1 else 0),⟨_,.inr rfl⟩,?_⟩
    obtain ⟨m,rfl | rfl⟩:=hkey <;> simp [b22,lp,lps,c22,Call.operands,-indexAddrA,ix,w,hl,i39,m2,m3,ha,h2.1,h2.2,w5,T,D,hi,dp,hne,El.avs,El.fl_keysr,El.fl_mem,w2,ne,f1,f2,f3,f4,f6,f7,f8,f9,fa,fd,fa2,fd2,fk,la,ld,cp1,cp2,cp3,g1,g2,g3,g4,g5,g6,g7,g8,dne,El.fl_mkS]
  · rw [if_neg dp]
    refine ⟨key,hkey,?_⟩
    obtain ⟨m,rfl | rfl⟩:=hkey <;> simp [b22,lp,lps,c22,Call.operands,-indexAddrA,ix,w,hl,i39,m2,m3,ha,h2.1,h2.2,w5,T,D,hi,dp,hne,El.avs,El.fl_keysr,El.fl_mem,w2,ne,f1,f2,f3,f4,f6,f7,f8,f9,fa,fd,fa2,fd2,fk,la,ld,cp1,cp2,cp3,g1,g2,g3,g4,g5,g6,g7,g8,dne,El.fl_mkS]
end E25
end
end
