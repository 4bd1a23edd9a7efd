/- The law AlgorithmsOf at the evaluator: true of every element. Written by gA4.py. No conditions. -/
import Derived.Test.YtbiildmljbcmeaaDoorA4
import Derived.Test.YtbiildmljbcmeaaDoorQ20
open Ab Go TabE Sp E34 F1 Rw F5 F6 F7 F8 F43 F47 AP A1 A2 A3 A4 A6 A7
set_option maxRecDepth 20000
set_option linter.unusedSimpArgs false
set_option linter.unusedVariables false
set_option maxHeartbeats 16000000
namespace A8
attribute [local simp ↓] s_seq s_reg s_regd s_cond s_block s_cons s_consG s_regD
attribute [local simp] s_nil s_loop s_round s_lpn s_lpe s_lpr firstReg s_gt s_gf s_wb s_wu s_val s_valN s_skip s_calls s_callP s_cax lookR flatR pureKs s_ret s_rgx s_sqn s_sqr s_sqe s_cdb s_bkn s_bkr s_bke s_exit s_ret' s_skip' s_finr s_finn s_fin1 s_fix s_clean s_gc0 o_tmp o_int o_bool o_nil o_str o_fn o_nil' l_hit l_miss l_nil ol_nil ol_cons ol_some x_move x_assign x_pick pk_t pk_f x_bin bn_s x_un x_extract x_callF cl_no x_callB x_callBF frzV x_conv cvx convA frame0 binA intOp resL resA results1 sealLW AV.pure AV.pureL keepT x_alloc x_box bxx x_build bdx x_buildSlice bsx x_buildSliceF bsf x_load ldx x_store stx x_slice slx x_fieldAddr x_field x_index ixx x_indexAddr iax x_makeSlice msx x_makeSliceF msf x_nilCheck newK genOf setK lookK fillA writeL writeC readC conts TyI.mk1 sliceA boundsA boundsB fitsA numA indexAddrA fieldAddrA partA fieldA indexA appendA copyA builtinA AV.cells chunk gcH reach keysT keepK inKs AV.keys AV.keysL Ty.isAgg eq1 eqL convA.go ltI w_u8 w_u32 w_u64 w_i64 w_fdiv w_tdiv w_tmod IntKind.bits unA sc_int sc_bool sc_str sc_sl sc_ref sc_ptr sc_pel sc_nilp sc_fn sc_nilf sc_if sc_nili sc_agg sc_tup sc_mem bs_pure bs_kl bs_length bs_cells bs_all sl_row sealRow sealY sl_int sl_bool sl_str sl_sl sl_nilp sl_nilf sl_nili sl_pel sl_agg sl_tup sl_fn sl_if nat_1 bs_cons bs_nil i_beq i_bne x_mkF x_mkI x_tassert x_panic s_pan s_sqp s_bkp s_finp s_fixp s_lpp s_rgp s_retp s_site s_stxN s_stxO x_callT clx El.avs_len s_dyn0 s_rgy barOf dynChk footL dynOK disjK keysOp opVals Op.operands
theorem lives:Con E 200 14 [] (.bool true):=.of (g:=[]) rfl (by kernel_rfl)
theorem opk {run:RunF} {slot:Nat} {cs:List AV} {d l r l':Int} {h:Heap} {key:Key} (hp:AV.pureL cs=true) (hk:lookK h key=some (bx [.int .i64 l]))
    (hr:run 13 [.agg cs,.ptr (0,0,0) 0,.int .i64 d] [((0,0,0),bx [.int .i64 l])]=some (.ret (.int .i64 r),[((0,0,0),bx [.int .i64 l'])])) :
    opened [false,true,false] true run slot 13 [.agg cs,.ptr key 0,.int .i64 d] h=some (.ret (.int .i64 r),setK h key (bx [.int .i64 l'])):=by
  have e1:sealM (sealA 20) [false,true,false] h [.agg cs,.ptr key 0,.int .i64 d]=some ([.agg cs,.ptr key 0,.int .i64 d],h):=by
    simp [sealM,sl_agg,sl_int,hp]
  have k1:AV.keysL cs=[]:=AV.keysL_pure _ hp
  have r1:∀ φ,AV.rnL φ cs=cs:=fun φ => rnL_pure cs hp
  unfold opened
  rw [e1]
  have e2:AV.keysL [.agg cs,.ptr key 0,.int .i64 d]=[key]:=by simp [AV.keysL,AV.keys,k1]
  simp only [e2]
  have e3:dd (reach h 3 [key])=[key]:=by simp [reach,hk,AV.keysL,AV.keys,dd]
  rw [e3]
  unfold lendA
  have e4:lendH h (inK [key]) [key]=some [((0,0,0),bx [.int .i64 l])]:=by simp [lendH,hk,inK,posK,AV.rnL,AV.rn]
  rw [e4]
  have e6:closedH h [key] [key]=true:=by simp [closedH,hk,AV.keysL,AV.keys]
  simp only [e2]
  rw [if_pos ⟨e6,by simp [inKs]⟩]
  have e5:AV.rnL (inK [key]) [.agg cs,.ptr key 0,.int .i64 d]=[.agg cs,.ptr (0,0,0) 0,.int .i64 d]:=by simp [AV.rnL,AV.rn,inK,posK,r1]
  rw [e5,hr]
  have e9:lentKs 1=[(0,0,0)]:=rfl
  have e7:dd (reach [((0,0,0),bx [AV.int .i64 l'])] 3 ([(0,0,0)] ++ []))=[(0,0,0)]:=by kernel_rfl
  have e10:closedH [((0,0,0),bx [AV.int .i64 l'])] [(0,0,0)] [(0,0,0)]=true:=by kernel_rfl
  have e8:AV.keysL [AV.int .i64 r]=[]:=rfl
  have e11:∀ g:Heap,sealA 20 g (AV.int .i64 r)=some (AV.int .i64 r,g):=fun g => rfl
  simp only [backR,if_true,e11,backV,Ab.back,List.length_singleton,e8,e9,e7,backA]
  rw [if_pos ⟨e10,by rfl,by rfl,by rfl⟩]
  simp [AV.rnL,AV.rn,outK,posK,putAll,lookK]
abbrev Fw (K:Nat) (e:El) (r l':Int):Prop:=aRun E K 13 [.agg (ec e),.ptr (0,0,0) 0,.int .i64 0] [((0,0,0),bx [.int .i64 40])]=some (.ret (.int .i64 r),[((0,0,0),bx [.int .i64 l'])])
theorem many (K:Nat) (hK:200 ≤ K) (e:El) (l':Int) (fw:Fw K e 0 l'):Con E (K + 1) 3 [e.av] (.bool true):=by
  have o:=fun slot h hk => opk (slot:=slot) (h:=h) (key:=(1,3,0)) (l:=40) (by rfl) hk fw
  have lv:=lives K hK 0
  refine con_ofO E_fn3 (by simp [AV.pureL,El.av_pure,AV.pure]) (Nat.le_of_ble_eq_true rfl) rfl (g:=[]) ?_
  rw [body_3,c3]
  simp [El.av_eq,o,lv]
theorem bad (K:Nat) (hK:200 ≤ K) (e:El) (r l':Int) (hr:r ≠ 0) (fw:Fw K e r l') (n x0 x1 x2 x3 x4 x5 x6 x7 x8 x9 x10 x11 x12 x13 x14 x15:Int) (b:Bool) (p p':El) (q:List Int) (w:Int) (hw:w ≠ 0) (hp:q.length ≤ 1)
    (A:∀ h,aCall E K 0 15 [e.av] h=some (.ret (.tup [ag n x0 x1 x2 x3 x4 x5 x6 x7 x8 x9 x10 x11 x12 x13 x14 x15 b p,fF q w]),h)) (B:∀ h,aCall E K 0 16 [e.av] h=some (.ret (.tup [ag n x0 x1 x2 x3 x4 x5 x6 x7 x8 x9 x10 x11 x12 x13 x14 x15 b p',fR q w]),h))
    (S:∀ h,aCall E K 0 18 [ag n x0 x1 x2 x3 x4 x5 x6 x7 x8 x9 x10 x11 x12 x13 x14 x15 b p,ag n x0 x1 x2 x3 x4 x5 x6 x7 x8 x9 x10 x11 x12 x13 x14 x15 b p'] h=some (.ret (.int .i64 1),h)):Con E (K + 1) 3 [e.av] (.bool true):=by
  have o:=fun slot h hk => opk (slot:=slot) (h:=h) (key:=(1,3,0)) (l:=40) (by rfl) hk fw
  have lv:=lives K hK 0
  have F:=fun f g d => A0.fault f g d q w (by omega) K (by omega) 0
  have np:=ns_pure q
  refine con_ofO E_fn3 (by simp [AV.pureL,El.av_pure,AV.pure]) (Nat.le_of_ble_eq_true rfl) rfl (g:=[]) ?_
  rw [body_3,c3]
  simp only [fF,fR,El.av_eq e] at A B
  simp [El.av_eq e,o,lv,A,B,S,F,hr,hw,np,El.avs_pure]
theorem good (K:Nat) (hK:200 ≤ K) (e:El) (r l':Int) (hr:r ≠ 0) (fw:Fw K e r l') (n x0 x1 x2 x3 x4 x5 x6 x7 x8 x9 x10 x11 x12 x13 x14 x15:Int) (b:Bool) (p p' y:El)
    (A:∀ h,aCall E K 0 15 [e.av] h=some (.ret (.tup [ag n x0 x1 x2 x3 x4 x5 x6 x7 x8 x9 x10 x11 x12 x13 x14 x15 b p,fF [] 0]),h)) (B:∀ h,aCall E K 0 16 [e.av] h=some (.ret (.tup [ag n x0 x1 x2 x3 x4 x5 x6 x7 x8 x9 x10 x11 x12 x13 x14 x15 b p',fR [] 0]),h))
    (S:∀ h,aCall E K 0 18 [ag n x0 x1 x2 x3 x4 x5 x6 x7 x8 x9 x10 x11 x12 x13 x14 x15 b p,ag n x0 x1 x2 x3 x4 x5 x6 x7 x8 x9 x10 x11 x12 x13 x14 x15 b p'] h=some (.ret (.int .i64 1),h)) (D:∀ h,aCall E K 0 19 [ag n x0 x1 x2 x3 x4 x5 x6 x7 x8 x9 x10 x11 x12 x13 x14 x15 b p] h=some (.ret (.tup [y.av,.int .i64 0]),h))
    (T:∀ h,aCall E K 0 20 [y.av,e.av] h=some (.ret (.int .i64 1),h)):Con E (K + 1) 3 [e.av] (.bool true):=by
  have o:=fun slot h hk => opk (slot:=slot) (h:=h) (key:=(1,3,0)) (l:=40) (by rfl) hk fw
  have lv:=lives K hK 0
  have F:=fun f g d => A0.fault f g d [] 0 (by simp) K (by simp; omega) 0
  refine con_ofO E_fn3 (by simp [AV.pureL,El.av_pure,AV.pure]) (Nat.le_of_ble_eq_true rfl) rfl (g:=[]) ?_
  rw [body_3,c3]
  simp only [fF,fR,El.av_eq e,El.av_eq y] at A B D T
  simp at A B F
  simp [El.av_eq e,El.av_eq y,o,lv,A,B,S,D,T,F,hr,El.avs_pure]
theorem fe_wd:∀ e:El,FW.Fe 100 40 e → Wd e:=by
  refine El.ind fun e ih h => ?_
  obtain ⟨_,h1,h2,h3⟩:=h
  exact .mk e (by omega) fun x hx => ih x hx (h3 x hx)
theorem fe_sh:∀ e:El,FW.Fe 100 40 e → E33.Sh e:=by
  refine El.ind fun e ih h => ?_
  obtain ⟨_,h1,h2,h3⟩:=h
  exact .mk e (by omega) (by omega) fun x hx => ih x hx (h3 x hx)
theorem law (e:El) (he:e.ok) (nn:E31.Nn e):∃ N,Con E N 3 [e.av] (.bool true):=by
  obtain ⟨Nf,few⟩:=Q20.few_con e he
  by_cases hq:(FW.few 100 40 e.core 40 0).1=0
  · have F:=few (Nf + 200) (by omega) 0 40 (by omega) (by omega) (by omega) (by omega)
    rw [hq] at F
    exact ⟨Nf + 200 + 1,many (Nf + 200) (by omega) e _ F⟩
  have fe:=FW.few_fe 100 40 e 40 0 hq
  have wd:=fe_wd e fe
  have sh:=fe_sh e fe
  obtain ⟨_,b1,s1,sub⟩:=fe
  obtain ⟨n,x0,x1,x2,x3,x4,x5,x6,x7,x8,x9,x10,x11,x12,x13,x14,x15,b,p,p',q,w,T⟩:=A4.both e he wd nn sh (by omega) (fun x hx => by obtain ⟨_,q,_,_⟩:=sub x hx; omega)
  obtain ⟨⟨N1,A⟩,⟨N2,B⟩,pok,pc,hp,hg,hb⟩:=T
  obtain ⟨N3,S0⟩:=F1.same p p' pok pc
  by_cases hw:w=0
  · subst hw
    obtain ⟨rfl,n0,n1,hx,hok,hz,bo,bc,wp,np,sp,c0⟩:=hg rfl
    obtain ⟨N4,D,_⟩:=A7.elem n x0 x1 x2 x3 x4 x5 x6 x7 x8 x9 x10 x11 x12 x13 x14 x15 b p ⟨n0,n1⟩ hx pok wp np sp bo
    obtain ⟨N5,T⟩:=F1.same (bld n [x0,x1,x2,x3,x4,x5,x6,x7,x8,x9,x10,x11,x12,x13,x14,x15] b p) e bo bc
    have e0:er n [x0,x1,x2,x3,x4,x5,x6,x7,x8,x9,x10,x11,x12,x13,x14,x15] b p=0:=by
      unfold er
      rw [if_neg (by simp [hok]),if_neg (by
        rintro ⟨rfl,q⟩
        rw [hz rfl] at q
        exact absurd q (by decide)),bc]
      exact c0
    rw [e0] at D
    simp only [if_true] at D
    obtain ⟨K,hK⟩:∃ K,Nf + N1 + N2 + N3 + N4 + N5 + 300=K:=⟨_,rfl⟩
    have F:=few K (by omega) 0 40 (by omega) (by omega) (by omega) (by omega)
    exact ⟨_,good K (by omega) e _ _ hq F n x0 x1 x2 x3 x4 x5 x6 x7 x8 x9 x10 x11 x12 x13 x14 x15 b p p' _ (A _ (by omega) 0) (B _ (by omega) 0) (A4.same (N3 + 100) (by omega) n x0 x1 x2 x3 x4 x5 x6 x7 x8 x9 x10 x11 x12 x13 x14 x15 b p p' 1 (S0 _ (by omega) 0) K (by omega) 0) (D _ (by omega) 0) (T _ (by omega) 0)⟩
  · obtain ⟨K,hK⟩:∃ K,Nf + N1 + N2 + N3 + 300=K:=⟨_,rfl⟩
    have F:=few K (by omega) 0 40 (by omega) (by omega) (by omega) (by omega)
    exact ⟨_,bad K (by omega) e _ _ hq F n x0 x1 x2 x3 x4 x5 x6 x7 x8 x9 x10 x11 x12 x13 x14 x15 b p p' q w hw hp (A _ (by omega) 0) (B _ (by omega) 0) (A4.same (N3 + 100) (by omega) n x0 x1 x2 x3 x4 x5 x6 x7 x8 x9 x10 x11 x12 x13 x14 x15 b p p' 1 (S0 _ (by omega) 0) K (by omega) 0)⟩
end A8
