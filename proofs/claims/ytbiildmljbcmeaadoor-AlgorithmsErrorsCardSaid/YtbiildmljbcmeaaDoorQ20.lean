/- law13.few at the evaluator. Written by genfew.py. No conditions. -/
import Derived.Test.YtbiildmljbcmeaaDoorFW
open Ab Go TabE Sp FW
set_option maxRecDepth 20000
set_option linter.unusedSimpArgs false
set_option linter.unusedVariables false
set_option maxHeartbeats 8000000
namespace Q20
attribute [local simp ↓] s_seq s_reg s_regd s_cond s_block s_cons s_consG s_regD
attribute [local simp] s_nil s_loop s_round s_lpn s_lpe s_lpr firstReg s_gt s_gf s_wb s_wu s_val s_valN s_skip s_calls s_callP s_cax lookR flatR pureKs s_ret s_rgx s_sqn s_sqr s_sqe s_cdb s_bkn s_bkr s_bke s_exit s_ret' s_skip' s_finr s_finn s_fin1 s_fix s_clean s_gc0 o_tmp o_int o_bool o_nil o_str o_fn o_nil' l_hit l_miss l_nil ol_nil ol_cons ol_some x_move x_assign x_pick pk_t pk_f x_bin bn_s x_un x_extract x_callF cl_no x_callB x_callBF frzV x_conv cvx convA frame0 binA intOp resL resA results1 sealLW AV.pure AV.pureL keepT x_alloc x_box bxx x_build bdx x_buildSlice bsx x_buildSliceF bsf x_load ldx x_store stx x_slice slx x_fieldAddr x_field x_index ixx x_indexAddr iax x_makeSlice msx x_makeSliceF msf x_nilCheck newK genOf setK lookK fillA writeL writeC readC conts TyI.mk1 sliceA boundsA boundsB fitsA numA indexAddrA fieldAddrA partA fieldA indexA appendA copyA builtinA AV.cells chunk gcH reach keysT keepK inKs AV.keys AV.keysL Ty.isAgg eq1 eqL convA.go ltI w_u8 w_u32 w_u64 w_i64 w_fdiv w_tdiv w_tmod IntKind.bits unA sc_int sc_bool sc_str sc_sl sc_ref sc_ptr sc_pel sc_nilp sc_fn sc_nilf sc_if sc_nili sc_agg sc_tup sc_mem bs_pure bs_kl bs_length bs_cells bs_all sl_row sealRow sealY sl_int sl_bool sl_str sl_sl sl_nilp sl_nilf sl_nili sl_pel sl_agg sl_tup sl_fn sl_if nat_1 bs_cons bs_nil i_beq i_bne x_mkF x_mkI x_tassert x_panic s_pan s_sqp s_bkp s_finp s_fixp s_lpp s_rgp s_retp s_site s_stxN s_stxO x_callT clx El.avs_len s_dyn0 s_rgy barOf dynChk footL dynOK disjK keysOp opVals Op.operands
theorem op {run:RunF} {slot:Nat} {cs:List AV} {d l r l':Int} {own:Heap} (hp:AV.pureL cs=true)
    (hr:run 13 [.agg cs,.ptr (0,0,0) 0,.int .i64 d] [((0,0,0),bx [.int .i64 l])]=some (.ret (.int .i64 r),[((0,0,0),bx [.int .i64 l'])])) :
    opened [false,true,false] true run slot 13 [.agg cs,.ptr (0,0,0) 0,.int .i64 d] (((0,0,0),bx [.int .i64 l]) :: own)=some (.ret (.int .i64 r),((0,0,0),bx [.int .i64 l']) :: own):=by
  have e1:∀ h,sealM (sealA 20) [false,true,false] h [.agg cs,.ptr (0,0,0) 0,.int .i64 d]=some ([.agg cs,.ptr (0,0,0) 0,.int .i64 d],h):=fun h => by
    simp [sealM,sl_agg,sl_int,hp]
  have k1:AV.keysL cs=[]:=AV.keysL_pure _ hp
  have r1:∀ φ,AV.rnL φ cs=cs:=fun φ => rnL_pure cs hp
  unfold opened
  rw [e1]
  have e2:AV.keysL [.agg cs,.ptr (0,0,0) 0,.int .i64 d]=[(0,0,0)]:=by simp [AV.keysL,AV.keys,k1]
  simp only [e2]
  have e3:dd (reach (((0,0,0),bx [.int .i64 l]) :: own) 3 [(0,0,0)])=[(0,0,0)]:=by kernel_rfl
  rw [e3]
  unfold lendA
  have e4:lendH (((0,0,0),bx [.int .i64 l]) :: own) (inK [(0,0,0)]) [(0,0,0)]=some [((0,0,0),bx [.int .i64 l])]:=by kernel_rfl
  rw [e4]
  simp only [e2]
  rw [if_pos ⟨by kernel_rfl,by kernel_rfl⟩]
  have e5:AV.rnL (inK [(0,0,0)]) [.agg cs,.ptr (0,0,0) 0,.int .i64 d]=[.agg cs,.ptr (0,0,0) 0,.int .i64 d]:=by simp [AV.rnL,AV.rn,r1]; rfl
  rw [e5,hr]
  show backR [(0,0,0)] slot (((0,0,0),bx [.int .i64 l]) :: own) true (some (.ret (.int .i64 r),[((0,0,0),bx [.int .i64 l'])]))=some (.ret (.int .i64 r),((0,0,0),bx [.int .i64 l']) :: own)
  kernel_rfl
def b:Code:=lp c13 0
abbrev S (e:El) (d:Int) (i:Nat) (l:Int):St:=⟨[(1,.ptr (0,0,0) 0),(2,.int .i64 d),(3,.ptr (1,3,0) 0),(7,.int .i64 (i:Int))],[((0,0,0),bx [.int .i64 l]),((1,3,0),bx (ec e))]⟩
theorem go (q k1:Nat) (e x:El) (d:Int) (i:Nat) (l l' r:Int) (hr:r ≠ 0) (hx:e.s[i]? = some x) (le:e.s.length ≤ 1000) (d0:0 ≤ d) (d1:d ≤ 100)
    (R:∀ own slot,opened [false,true,false] true (aRun E q) slot 13 [.agg (ec x),.ptr (0,0,0) 0,.int .i64 (d + 1)] (((0,0,0),bx [.int .i64 l]) :: own)=some (.ret (.int .i64 r),((0,0,0),bx [.int .i64 l']) :: own)):rndO fn13 b q k1 (S e d i l)=some (.normal,S e d (i + 1) l'):=by
  have hi:i < e.s.length:=(List.getElem?_eq_some_iff.1 hx).1
  have ix:=El.at_ e.fs e.cs e.s i x hx
  have w:=w64' ((i:Int) + 1) (by omega) (by omega)
  have w2:=w64' (d + 1) (by omega) (by omega)
  simp [b,lp,lps,c13,-indexAddrA,ix,w,w2,hi,R,hr]
abbrev Out0 (l:Int):AExit × St:=(.ret,⟨[(6,.int .i64 0)],[((0,0,0),bx [.int .i64 l])]⟩)
theorem bad (q k1:Nat) (e x:El) (d:Int) (i:Nat) (l l':Int) (hx:e.s[i]? = some x) (le:e.s.length ≤ 1000) (d0:0 ≤ d) (d1:d ≤ 100)
    (R:∀ own slot,opened [false,true,false] true (aRun E q) slot 13 [.agg (ec x),.ptr (0,0,0) 0,.int .i64 (d + 1)] (((0,0,0),bx [.int .i64 l]) :: own)=some (.ret (.int .i64 0),((0,0,0),bx [.int .i64 l']) :: own)):rndO fn13 b q k1 (S e d i l)=some (Out0 l'):=by
  have hi:i < e.s.length:=(List.getElem?_eq_some_iff.1 hx).1
  have ix:=El.at_ e.fs e.cs e.s i x hx
  have w2:=w64' (d + 1) (by omega) (by omega)
  simp [b,lp,lps,c13,-indexAddrA,ix,w2,hi,R]
theorem last (q k1:Nat) (e:El) (d l:Int):rndO fn13 b q k1 (S e d e.s.length l)=some (.exit 0,⟨[(1,.ptr (0,0,0) 0),(2,.int .i64 d),(3,.ptr (1,3,0) 0),(7,.int .i64 (e.s.length:Int)),(38,.bool false)],(S e d e.s.length l).h⟩):=by
  simp [b,lp,lps,c13]
abbrev Lp (K:Nat):=aLoop (aCode E (site fn13 (aRun E K)) (dcall (aRun E K)) K 1 fn13 b) (cleanS 1 ((firstReg b).bind fn13.head))
def En (e:El) (d:Int) (p:Int × Int):AExit × St:=if p.1=0 then Out0 p.2 else (.exit 0,⟨[(1,.ptr (0,0,0) 0),(2,.int .i64 d),(3,.ptr (1,3,0) 0),(7,.int .i64 (e.s.length:Int)),(38,.bool false)],(S e d e.s.length p.2).h⟩)
abbrev Fc (K:Nat) (x:El):Prop:=∀ d l:Int,0 ≤ d → d ≤ 21 → -5 ≤ l → l ≤ 100000 → aRun E K 13 [.agg (ec x),.ptr (0,0,0) 0,.int .i64 d] [((0,0,0),bx [.int .i64 l])]=some (.ret (.int .i64 (few 100 40 x.core l d).1),[((0,0,0),bx [.int .i64 (few 100 40 x.core l d).2])])
theorem loop (K:Nat) (e:El) (le:e.s.length ≤ 1000) (d:Int) (d0:0 ≤ d) (d1:d ≤ 20) (R:∀ x ∈ e.s,Fc K x):∀ (r:List El) (i k:Nat) (l:Int),e.s.drop i=r → i ≤ e.s.length → 0 ≤ l → l ≤ 100000 → r.length < k →
    Lp K k (S e d i l)=some (En e d (fews 100 40 (El.cores r) l d))
  | [],i,k,l,h1,hi,l0,l1,hk => by
    obtain ⟨k,rfl⟩:∃ j,k=j + 1:=⟨k - 1,by omega⟩
    have q:=congrArg List.length h1
    rw [List.length_drop,List.length_nil] at q
    obtain rfl:i=e.s.length:=by omega
    exact aLoop_end (last K K e d l) (fun h => by cases h)
  | x :: r,i,k,l,h1,hi,l0,l1,hk => by
    obtain ⟨k,rfl⟩:∃ j,k=j + 1:=⟨k - 1,by omega⟩
    have q:=congrArg List.length h1
    rw [List.length_drop,List.length_cons] at q
    have hx:e.s[i]? = some x:=by
      have:=congrArg (fun l => l[0]?) h1
      simpa [List.getElem?_drop] using this
    have hd:e.s.drop (i + 1)=r:=by
      have:=congrArg List.tail h1
      simpa [List.tail_drop] using this
    have R':=R x (List.mem_of_getElem? hx) (d + 1) l (by omega) (by omega) (by omega) l1
    have O:=fun own slot => op (slot:=slot) (own:=own) (by rfl) R'
    have lo:=few_le x.core 100 40 l (d + 1)
    rw [El.cores]
    unfold fews
    by_cases h0:(few 100 40 x.core l (d + 1)).1=0
    · rw [if_pos h0]
      rw [h0] at O
      exact aLoop_end (bad K K e x d i l _ hx le d0 (by omega) O) (fun h => by cases h)
    · rw [if_neg h0]
      unfold Lp
      rw [aLoop_succ (go K K e x d i l _ _ h0 hx le d0 (by omega) O)]
      have lp':=few_ok x.core 100 40 l (d + 1) h0
      exact loop K e le d d0 d1 R r (i + 1) k _ hd (by omega) (by omega) (by omega) (by simp at hk; omega)
theorem few_con:∀ e:El,e.ok → ∃ N,∀ K,N ≤ K → Fc K e:=by
  refine El.ind fun e ih he => ?_
  obtain ⟨N,hN⟩:=unif (P:=fun (x:El) (n:Nat) => ∀ K,n ≤ K → Fc K x) (fun x n m h hm K hK => h K (by omega)) e.s (fun x hx => ih x hx (he.sub x hx))
  refine ⟨N + 40 + 60,fun K' hK' d l d0 d1 l0 l1 => ?_⟩
  obtain ⟨K,rfl⟩:∃ K,K'=K + 1:=⟨K' - 1,by omega⟩
  rw [aRun_fn rfl E_fn13 rfl (Nat.le_of_ble_eq_true rfl),body_13,c13]
  rw [El.core_eq e]
  unfold few
  have w:=w64' (l - 1) (by omega) (by omega)
  have lv:=El.avs_len e.s
  have bl:=bs_len e.b
  have cl:(El.cores e.s).length=e.s.length:=by rw [El.cores_map,List.length_map]
  rw [cl]
  by_cases h1:l - 1 < 0
  · rw [if_pos (.inl h1)]
    simp [-s_round,w,h1,lv,bl]
  by_cases h2:20 < d
  · rw [if_pos (.inr (.inl h2))]
    simp [-s_round,w,h1,h2,lv,bl]
  by_cases h3:100 < e.b.length
  · have h3':(100:Int) < e.b.length:=by omega
    rw [if_pos (.inr (.inr (.inl h3)))]
    simp [-s_round,w,h1,h2,h3,h3',lv,bl]
  by_cases h4:40 < e.s.length
  · have h4':(40:Int) < e.s.length:=by omega
    have h3':¬ (100:Int) < e.b.length:=by omega
    rw [if_pos (.inr (.inr (.inr h4)))]
    simp [-s_round,w,h1,h2,h3,h4,h3',h4',lv,bl]
  have h3':¬ (100:Int) < e.b.length:=by omega
  have h4':¬ (40:Int) < e.s.length:=by omega
  rw [if_neg (by rintro (h | h | h | h) <;> contradiction)]
  have L:=loop K e (by omega) d d0 (by omega) (fun x hx => hN x hx K (by omega)) e.s 0 K (l - 1) rfl (by omega) (by omega) (by omega) (by omega)
  simp [Lp,b,lp,lps,c13,firstReg,S,bx,ec] at L
  have pk:=fun h => (fews_ok (El.cores e.s) 100 40 (l - 1) d (by omega) (by omega) h).2.2.2
  generalize fews 100 40 (El.cores e.s) (l - 1) d=p at L pk ⊢
  obtain ⟨p1,p2⟩:=p
  simp only [En] at L
  by_cases hp:p1=0
  · rw [if_pos hp] at L
    subst hp
    simp [-s_round,w,h1,h2,h3,h4,h3',h4',lv,bl,L]
  · rw [if_neg hp] at L
    obtain rfl:=pk hp
    simp [-s_round,w,h1,h2,h3,h4,h3',h4',lv,bl,L,hp]
end Q20
