/- law13.same at the evaluator; what algorithms.Of and law13.told answer. Written by gA4.py. No conditions. -/
import Derived.Test.YtbiildmljbcmeaaDoorOFn
import Derived.Test.YtbiildmljbcmeaaDoorS2
import Derived.Test.YtbiildmljbcmeaaDoorQ22
open Ab Go TabE Sp E34 F1 Rw F5 F6 F7 F8 F43 F47 AP A1 A2 A3 A6 A7
set_option maxRecDepth 20000
set_option linter.unusedSimpArgs false
set_option linter.unusedVariables false
set_option maxHeartbeats 8000000
namespace A4
attribute [local simp ↓] s_seq s_reg s_regd s_cond s_block s_cons s_consG s_regD
attribute [local simp] s_nil s_loop s_round s_lpn s_lpe s_lpr firstReg s_gt s_gf s_wb s_wu s_val s_valN s_skip s_calls s_callP s_cax lookR flatR pureKs s_ret s_rgx s_sqn s_sqr s_sqe s_cdb s_bkn s_bkr s_bke s_exit s_ret' s_skip' s_finr s_finn s_fin1 s_fix s_clean s_gc0 o_tmp o_int o_bool o_nil o_str o_fn o_nil' l_hit l_miss l_nil ol_nil ol_cons ol_some x_move x_assign x_pick pk_t pk_f x_bin bn_s x_un x_extract x_callF cl_no x_callB x_callBF frzV x_conv cvx convA frame0 binA intOp resL resA results1 sealLW AV.pure AV.pureL keepT x_alloc x_box bxx x_build bdx x_buildSlice bsx x_buildSliceF bsf x_load ldx x_store stx x_slice slx x_fieldAddr x_field x_index ixx x_indexAddr iax x_makeSlice msx x_makeSliceF msf x_nilCheck newK genOf setK lookK fillA writeL writeC readC conts TyI.mk1 sliceA boundsA boundsB fitsA numA indexAddrA fieldAddrA partA fieldA indexA appendA copyA builtinA AV.cells chunk gcH reach keysT keepK inKs AV.keys AV.keysL Ty.isAgg eq1 eqL convA.go ltI w_u8 w_u32 w_u64 w_i64 w_fdiv w_tdiv w_tmod IntKind.bits unA sc_int sc_bool sc_str sc_sl sc_ref sc_ptr sc_pel sc_nilp sc_fn sc_nilf sc_if sc_nili sc_agg sc_tup sc_mem bs_pure bs_kl bs_length bs_cells bs_all sl_row sealRow sealY sl_int sl_bool sl_str sl_sl sl_nilp sl_nilf sl_nili sl_pel sl_agg sl_tup sl_fn sl_if nat_1 bs_cons bs_nil i_beq i_bne x_mkF x_mkI x_tassert x_panic s_pan s_sqp s_bkp s_finp s_fixp s_lpp s_rgp s_retp s_site s_stxN s_stxO x_callT clx El.avs_len s_dyn0 s_rgy barOf dynChk footL dynOK disjK keysOp opVals Op.operands
theorem same (K:Nat) (hK:60 ≤ K) (n x0 x1 x2 x3 x4 x5 x6 x7 x8 x9 x10 x11 x12 x13 x14 x15:Int) (b:Bool) (p q:El) (w:Int) (S:∀ h,aCall E K 0 20 [p.av,q.av] h=some (.ret (.int .i64 w),h)):Con E (K + 1) 18 [ag n x0 x1 x2 x3 x4 x5 x6 x7 x8 x9 x10 x11 x12 x13 x14 x15 b p,ag n x0 x1 x2 x3 x4 x5 x6 x7 x8 x9 x10 x11 x12 x13 x14 x15 b q] (.int .i64 w):=by
  refine con_of E_fn18 (by simp [AV.pureL,AV.pure,El.avs_pure]) (Nat.le_of_ble_eq_true rfl) rfl rfl (g:=[]) ?_
  rw [body_18,c18]
  rw [El.av_eq p,El.av_eq q] at S
  simp [S,fitZ]
abbrev z:El:=E32.z0
structure Told (e:El) (n x0 x1 x2 x3 x4 x5 x6 x7 x8 x9 x10 x11 x12 x13 x14 x15:Int) (b:Bool) (p p':El) (q:List Int) (w:Int):Prop where
  of:∃ N,Con E N 15 [e.av] (.tup [ag n x0 x1 x2 x3 x4 x5 x6 x7 x8 x9 x10 x11 x12 x13 x14 x15 b p,fF q w])
  told:∃ N,Con E N 16 [e.av] (.tup [ag n x0 x1 x2 x3 x4 x5 x6 x7 x8 x9 x10 x11 x12 x13 x14 x15 b p',fR q w])
  pok:p.ok
  core:p.core=p'.core
  path:q.length ≤ 1
  good:w=0 → q=[] ∧ 0 ≤ n ∧ n < 256 ∧ (∀ x ∈ [x0,x1,x2,x3,x4,x5,x6,x7,x8,x9,x10,x11,x12,x13,x14,x15],0 ≤ x ∧ x < 4294967296) ∧ OP.okB n [x0,x1,x2,x3,x4,x5,x6,x7,x8,x9,x10,x11,x12,x13,x14,x15]=true ∧ (b=false → p=z) ∧ (bld n [x0,x1,x2,x3,x4,x5,x6,x7,x8,x9,x10,x11,x12,x13,x14,x15] b p).ok ∧ (bld n [x0,x1,x2,x3,x4,x5,x6,x7,x8,x9,x10,x11,x12,x13,x14,x15] b p).core=e.core ∧ Wd p ∧ E31.Nn p ∧ E33.Sh p ∧ (chk e.core 1 0 0).1=0
  bad:w ≠ 0 → n=0 ∧ b=false ∧ p=z ∧ p'=z ∧ [x0,x1,x2,x3,x4,x5,x6,x7,x8,x9,x10,x11,x12,x13,x14,x15]=List.replicate 16 0
theorem z_ok:z.ok:=by rw [El.ok_eq]; exact ⟨by simp [z,E32.z0,El.c],by simp [z,E32.z0,El.n],by simp [z,E32.z0,El.b,isB],by simp [z,E32.z0,El.b],by simp [z,E32.z0,El.s],fun y hy => by simp [z,E32.z0,El.s] at hy⟩
theorem cl_wd:∀ e:El,Wd e → Wd (clo e):=by
  refine El.ind fun e ih h => ?_
  obtain ⟨_,h1,h2⟩:=h
  rw [cl_eq]
  refine .mk _ (by simp only [El.s,List.length_map]; exact h1) fun x hx => ?_
  simp only [El.s] at hx
  obtain ⟨y,hy,rfl⟩:=List.mem_map.1 hx
  exact ih y hy (h2 y hy)
theorem cl_nn:∀ e:El,E31.Nn e → E31.Nn (clo e):=by
  refine El.ind fun e ih h => ?_
  obtain ⟨_,h1,h2,h3⟩:=h
  rw [cl_eq]
  refine .mk _ (by simpa only [El.fb,El.b] using h1) (by simp [El.fs]) fun x hx => ?_
  simp only [El.s] at hx
  obtain ⟨y,hy,rfl⟩:=List.mem_map.1 hx
  exact ih y hy (h3 y hy)
theorem cl_sh:∀ e:El,E33.Sh e → E33.Sh (clo e):=by
  refine El.ind fun e ih h => ?_
  obtain ⟨_,h1,h2,h3⟩:=h
  rw [cl_eq]
  refine .mk _ (by simpa only [El.b] using h1) (by simp only [El.s,List.length_map]; exact h2) fun x hx => ?_
  simp only [El.s] at hx
  obtain ⟨y,hy,rfl⟩:=List.mem_map.1 hx
  exact ih y hy (h3 y hy)
theorem z_wd:Wd z:=.mk _ (by simp [z,E32.z0,El.s]) fun x hx => by simp [z,E32.z0,El.s] at hx
theorem z_nn:E31.Nn z:=.mk _ (by simp [z,E32.z0,El.b]) (by simp [z,E32.z0,El.s]) fun x hx => by simp [z,E32.z0,El.s] at hx
theorem z_sh:E33.Sh z:=.mk _ (by simp [z,E32.z0,El.b]) (by simp [z,E32.z0,El.s]) fun x hx => by simp [z,E32.z0,El.s] at hx
theorem both (e:El) (he:e.ok) (wd:Wd e) (nn:E31.Nn e) (sh:E33.Sh e) (hl:e.s.length ≤ 1000) (hb:∀ x ∈ e.s,x.b.length ≤ 1000):∃ n x0 x1 x2 x3 x4 x5 x6 x7 x8 x9 x10 x11 x12 x13 x14 x15 b p p' q w,Told e n x0 x1 x2 x3 x4 x5 x6 x7 x8 x9 x10 x11 x12 x13 x14 x15 b p p' q w:=by
  obtain ⟨N0,C0⟩:=E10.check e he
  obtain ⟨_,_,wds⟩:=wd
  obtain ⟨_,_,_,nns⟩:=nn
  obtain ⟨_,_,_,shs⟩:=sh
  have S:=fun k c (hk:70 ≤ k) => F8.sequence false c lA e tS (by omega) (by simp) k (by simp; omega) 0
  have S':=fun k c (hk:70 ≤ k) => F10.rsequence false c lA e tS (by omega) (by simp) k (by simp; omega) 0
  simp only [List.map,Fld.av,Fld.cells,tS] at S S'
  by_cases h0:(chk e.core 1 0 0).1=0
  case neg => exact ⟨0,0,0,0,0,0,0,0,0,0,0,0,0,0,0,0,0,false,z,z,[],_,⟨⟨_,A2.chk (N0 + 100) (by omega) e _ h0 (C0 _ (by omega) 0)⟩,⟨_,A3.chk (N0 + 100) (by omega) e _ h0 (C0 _ (by omega) 0)⟩,z_ok,rfl,by simp,fun h => absurd h h0,fun _ => ⟨rfl,rfl,rfl,rfl,rfl⟩⟩⟩
  have hv:=vld_of _ _ _ _ h0
  rw [h0] at C0
  have hvs:∀ x ∈ e.s,vld x.core:=by rw [vld_eq] at hv; exact vlds_all.1 hv.2.2.2
  have hB:∀ x ∈ e.s,isB x.b:=fun x hx => (he.sub x hx).bb
  cases hq:sq e tS lA with
  | inr q =>
    obtain ⟨er,p⟩:=q
    rw [hq] at S S'
    have hbad:=F11.sq_bad hq
    exact ⟨0,0,0,0,0,0,0,0,0,0,0,0,0,0,0,0,0,false,z,z,p,er,⟨⟨_,A2.seq (N0 + 100) (by omega) e p er hbad.1 (C0 _ (by omega) 0) fun c => S _ c (by omega)⟩,⟨_,A3.seq (N0 + 100) (by omega) e p er hbad.1 (C0 _ (by omega) 0) fun c => S' _ c (by omega)⟩,z_ok,rfl,by omega,fun h => absurd h hbad.1,fun _ => ⟨rfl,rfl,rfl,rfl,rfl⟩⟩⟩
  | inl o =>
    rw [hq] at S S'
    obtain ⟨ht,c2⟩:=casesA e o hq
    have G:∀ x ∈ e.s,∃ n x0 x1 x2 x3 x4 x5 x6 x7 x8 x9 x10 x11 x12 x13 x14 x15 w,OH.get x.b=(n,[x0,x1,x2,x3,x4,x5,x6,x7,x8,x9,x10,x11,x12,x13,x14,x15],w) ∧ ∃ N,Con E N 66 [.sl x.fb (bs x.b) x.cb] (.tup [.agg [.int .u8 n,.int .u32 x0,.int .u32 x1,.int .u32 x2,.int .u32 x3,.int .u32 x4,.int .u32 x5,.int .u32 x6,.int .u32 x7,.int .u32 x8,.int .u32 x9,.int .u32 x10,.int .u32 x11,.int .u32 x12,.int .u32 x13,.int .u32 x14,.int .u32 x15],.int .i64 w]):=fun x hx => by
      obtain ⟨N,g⟩:=Q22.get x.fb x.cb x.b (fun y hy => hB x hx y hy) (hb x hx)
      have gl:=OH.get_len x.b
      obtain ⟨x0,x1,x2,x3,x4,x5,x6,x7,x8,x9,x10,x11,x12,x13,x14,x15,hxs⟩:=l16 _ gl
      refine ⟨(OH.get x.b).1,x0,x1,x2,x3,x4,x5,x6,x7,x8,x9,x10,x11,x12,x13,x14,x15,(OH.get x.b).2.2,?_,N,?_⟩
      · rw [← hxs]
      · rw [hxs] at g; exact g
    rcases c2 with ⟨x,hs,rfl,hx⟩ | ⟨x,y,hs,rfl,hx⟩
    · have mx:x ∈ e.s:=by rw [hs]; simp
      obtain ⟨n,x0,x1,x2,x3,x4,x5,x6,x7,x8,x9,x10,x11,x12,x13,x14,x15,w,hg,N1,G1⟩:=G x mx
      obtain ⟨k,hk⟩:∃ k,N0 + N1 + 100=k:=⟨_,rfl⟩
      have C:=C0 (k + 10) (by omega) 0
      have B:=G1 (k + 10) (by omega) 0
      by_cases hw:w=0
      · subst hw
        have ok:=OH.get_ok x.b (hB x mx) (by rw [hg])
        rw [hg] at ok
        simp only at ok
        obtain ⟨o1,o2,o3,o4,o5,o6⟩:=ok
        have lo:(lf (OP.octs n [x0,x1,x2,x3,x4,x5,x6,x7,x8,x9,x10,x11,x12,x13,x14,x15])).ok:=lf_ok _ (by rw [o2]; exact hB x mx) (by rw [o2]; exact (he.sub x mx).bl)
        refine ⟨n,x0,x1,x2,x3,x4,x5,x6,x7,x8,x9,x10,x11,x12,x13,x14,x15,false,z,z,[],0,⟨⟨_,A2.ok1 k (by omega) e x n x0 x1 x2 x3 x4 x5 x6 x7 x8 x9 x10 x11 x12 x13 x14 x15 hs C (fun c => S _ c (by omega)) B⟩,⟨_,A3.ok1 k (by omega) e x n x0 x1 x2 x3 x4 x5 x6 x7 x8 x9 x10 x11 x12 x13 x14 x15 hs C (fun c => S' _ c (by omega)) B⟩,z_ok,rfl,by simp,fun _ => ⟨rfl,by omega,by omega,o4,o1,fun _ => rfl,?_,?_,z_wd,z_nn,z_sh,h0⟩,fun h => absurd rfl h⟩⟩
        · exact tp_ok _ _ (fun u hu => by rw [List.mem_singleton.1 hu]; exact lo) (by simp)
        · exact core_of e hv ht _ _ (by rw [hs,El.cores_map,El.cores_map]; simp [lf_core x _ (hvs x mx) hx o2])
      · exact ⟨0,0,0,0,0,0,0,0,0,0,0,0,0,0,0,0,0,false,z,z,[0],w,⟨⟨_,A2.get1 k (by omega) e x n x0 x1 x2 x3 x4 x5 x6 x7 x8 x9 x10 x11 x12 x13 x14 x15 w hw hs C (fun c => S _ c (by omega)) B⟩,⟨_,A3.get1 k (by omega) e x n x0 x1 x2 x3 x4 x5 x6 x7 x8 x9 x10 x11 x12 x13 x14 x15 w hw hs C (fun c => S' _ c (by omega)) B⟩,z_ok,rfl,by simp,fun h => absurd h hw,fun _ => ⟨rfl,rfl,rfl,rfl,rfl⟩⟩⟩
    · have mx:x ∈ e.s:=by rw [hs]; simp
      have my:y ∈ e.s:=by rw [hs]; simp
      obtain ⟨n,x0,x1,x2,x3,x4,x5,x6,x7,x8,x9,x10,x11,x12,x13,x14,x15,w,hg,N1,G1⟩:=G x mx
      obtain ⟨N2,C2⟩:=A1.clone y (wds y my) (nns y my) (shs y my)
      obtain ⟨k,hk⟩:∃ k,N0 + N1 + N2 + 100=k:=⟨_,rfl⟩
      have C:=C0 (k + 10) (by omega) 0
      have B:=G1 (k + 10) (by omega) 0
      by_cases hw:w=0
      · subst hw
        have ok:=OH.get_ok x.b (hB x mx) (by rw [hg])
        rw [hg] at ok
        simp only at ok
        obtain ⟨o1,o2,o3,o4,o5,o6⟩:=ok
        have lo:(lf (OP.octs n [x0,x1,x2,x3,x4,x5,x6,x7,x8,x9,x10,x11,x12,x13,x14,x15])).ok:=lf_ok _ (by rw [o2]; exact hB x mx) (by rw [o2]; exact (he.sub x mx).bl)
        refine ⟨n,x0,x1,x2,x3,x4,x5,x6,x7,x8,x9,x10,x11,x12,x13,x14,x15,true,clo y,y,[],0,⟨⟨_,A2.ok2 k (by omega) e x y n x0 x1 x2 x3 x4 x5 x6 x7 x8 x9 x10 x11 x12 x13 x14 x15 hs C (fun c => S _ c (by omega)) B (C2 _ (by omega) 0)⟩,⟨_,A3.ok2 k (by omega) e x y n x0 x1 x2 x3 x4 x5 x6 x7 x8 x9 x10 x11 x12 x13 x14 x15 hs C (fun c => S' _ c (by omega)) B⟩,cl_ok y (he.sub y my),cl_core y,by simp,fun _ => ⟨rfl,by omega,by omega,o4,o1,fun h => (by cases h),?_,?_,cl_wd y (wds y my),cl_nn y (nns y my),cl_sh y (shs y my),h0⟩,fun h => absurd rfl h⟩⟩
        · refine tp_ok _ _ (fun u hu => ?_) (by simp)
          rcases List.mem_cons.1 hu with rfl | hu
          · exact lo
          · rw [List.mem_singleton.1 hu]; exact cl_ok _ (cl_ok y (he.sub y my))
        · exact core_of e hv ht _ _ (by rw [hs,El.cores_map,El.cores_map]; simp [lf_core x _ (hvs x mx) hx o2,cl_core])
      · exact ⟨0,0,0,0,0,0,0,0,0,0,0,0,0,0,0,0,0,false,z,z,[0],w,⟨⟨_,A2.get2 k (by omega) e x y n x0 x1 x2 x3 x4 x5 x6 x7 x8 x9 x10 x11 x12 x13 x14 x15 w hw hs C (fun c => S _ c (by omega)) B⟩,⟨_,A3.get2 k (by omega) e x y n x0 x1 x2 x3 x4 x5 x6 x7 x8 x9 x10 x11 x12 x13 x14 x15 w hw hs C (fun c => S' _ c (by omega)) B⟩,z_ok,rfl,by simp,fun h => absurd h hw,fun _ => ⟨rfl,rfl,rfl,rfl,rfl⟩⟩⟩
end A4
