/- tags.Put: what is proved of it in the model stands in for it. No conditions. -/
import Derived.Test.YtbiildmljbcmeaaDoorG2
import Derived.Test.YtbiildmljbcmeaaDoorGO5e
import Derived.Test.YtbiildmljbcmeaaDoorSq
import Derived.Test.YtbiildmljbcmeaaDoorTabETiee
import Derived.Test.YtbiildmljbcmeaaDoorB35e
open Ab Go TabE
set_option maxRecDepth 20000
set_option linter.unusedSimpArgs false
set_option linter.unusedVariables false
set_option maxHeartbeats 8000000
namespace G3
attribute [local simp ↓] s_seq s_reg s_regd s_cond s_block s_cons s_consG
attribute [local simp] s_nil s_loop s_round s_lpn s_lpe s_lpr firstReg s_gt s_gf s_wb s_wu s_val s_valN s_skip s_calls s_callP s_cax lookR flatR pureKs s_ret s_rgx s_sqn s_sqr s_sqe s_cdb s_bkn s_bkr s_bke s_exit s_ret' s_skip' s_finr s_finn s_fin1 s_fix s_clean s_gc0 o_tmp o_int o_bool o_nil o_str o_fn o_nil' l_hit l_miss l_nil ol_nil ol_cons ol_some x_move x_assign x_pick pk_t pk_f x_bin bn_s x_un x_extract x_callF cl_no x_callB x_callBF frzV x_conv cvx convA frame0 binA intOp resL resA results1 sealLW AV.pure AV.pureL keepT x_alloc x_box bxx x_build bdx x_buildSlice bsx x_buildSliceF bsf x_load ldx x_store stx x_slice slx x_fieldAddr x_field x_index ixx x_indexAddr iax x_makeSlice msx x_makeSliceF msf x_nilCheck newK genOf setK lookK fillA writeL writeC readC conts TyI.mk1 sliceA boundsA boundsB fitsA numA indexAddrA fieldAddrA partA fieldA indexA appendA copyA builtinA AV.cells chunk gcH reach keysT keepK inKs AV.keys AV.keysL Ty.isAgg eq1 eqL convA.go ltI w_u8 w_u32 w_u64 w_i64 w_fdiv w_tdiv w_tmod IntKind.bits unA sc_int sc_bool sc_str sc_sl sc_ref sc_ptr sc_pel sc_nilp sc_fn sc_nilf sc_if sc_nili sc_agg sc_tup sc_mem bs_pure bs_kl bs_length bs_cells bs_all sl_row sealRow sealY sl_int sl_bool sl_str sl_sl sl_nilp sl_nilf sl_nili sl_pel sl_agg sl_tup sl_fn sl_if nat_1 bs_cons bs_nil i_beq i_bne x_mkF x_mkI x_tassert x_panic s_pan s_sqp s_bkp s_finp s_fixp s_lpp s_rgp s_retp s_site s_stxN s_stxO x_callT clx
theorem ty0 (i):E0.ty i=E.ty i:=rfl
theorem fn0 (i):E0.fn i=E.fn i:=rfl
theorem ext0 (i):E0.ext i=E.ext i:=rfl
theorem prim0 (i):E0.prim i=none:=rfl
theorem tag_ok (c:Int) (k:Bool) (n:Int):Con E0 10 121 [.agg [.int .u8 c,.bool k,.int .u32 n]] (.int .i64 (Sp.tagE c k n)):=by
  refine .of (g:=[]) rfl ?_
  rw [aCall_fn rfl (show E0.fn 121=some fn121 from rfl) rfl (Nat.le_of_ble_eq_true rfl) rfl rfl,body_121,c121]
  unfold Sp.tagE
  by_cases h1:3 < c
  · simp [ty0,h1]
  by_cases h2:268435455 < n
  · simp [ty0,h1,h2]
  by_cases h3:c=0
  · subst h3
    by_cases h4:n=0
    · subst h4; simp [ty0]
    by_cases h5:n=16
    · subst h5; cases k <;> simp [ty0]
    by_cases h6:n=17
    · subst h6; cases k <;> simp [ty0]
    simp [ty0,h2,h4,h5,h6]
  · simp [ty0,h1,h2,h3]
def or8 (a b:Int):Int:=IntKind.u8.wrap ((BitVec.ofInt 8 a ||| BitVec.ofInt 8 b).toNat:Nat)
theorem i_or8 (a b:Int):intOp .or .u8 a b=some (.int .u8 (or8 a b)):=rfl
theorem or_tag (c n:Int) (k:Bool) (c0:0 ≤ c) (c3:c ≤ 3) (n0:0 ≤ n) (n1:n < 31):or8 (if k then or8 (c * 64) 32 else c * 64) n=64 * c + (if k then 32 else 0) + n:=by
  have:∀ (a:Fin 4) (b:Fin 31) (k:Bool),or8 (if k then or8 ((a.val:Int) * 64) 32 else (a.val:Int) * 64) (b.val:Int)=64 * (a.val:Int) + (if k then 32 else 0) + (b.val:Int):=by decide +kernel
  obtain ⟨a,rfl⟩:=Int.eq_ofNat_of_zero_le c0
  obtain ⟨b,rfl⟩:=Int.eq_ofNat_of_zero_le n0
  exact this ⟨a,by omega⟩ ⟨b,by omega⟩ k
theorem bad (c:Int) (k:Bool) (n:Int) (h:Sp.tagE c k n ≠ 0):Con E0 20 159 [.agg [.int .u8 c,.bool k,.int .u32 n]] (.tup [.sl true [] (some 0),.int .i64 (Sp.tagE c k n)]):=by
  refine .of (g:=[]) rfl ?_
  rw [aCall_fn rfl (show E0.fn 159=some fn159 from rfl) rfl (Nat.le_of_ble_eq_true rfl) rfl rfl,body_159,c159]
  have t:=tag_ok c k n
  simp [ty0,ext0,t,h]
theorem low (c:Int) (k:Bool) (n:Int) (c0:0 ≤ c) (c3:c ≤ 3) (n0:0 ≤ n) (n1:n < 31) (h:Sp.tagE c k n=0):Con E0 20 159 [.agg [.int .u8 c,.bool k,.int .u32 n]] (.tup [.sl false [.int .u8 (64 * c + (if k then 32 else 0) + n)] (some 1),.int .i64 0]):=by
  refine .of (g:=[]) rfl ?_
  rw [aCall_fn rfl (show E0.fn 159=some fn159 from rfl) rfl (Nat.le_of_ble_eq_true rfl) rfl rfl,body_159,c159]
  have t:=tag_ok c k n
  rw [h] at t
  have o:=or_tag c n k c0 c3 n0 n1
  have w1:c * 64 % 256=c * 64:=by omega
  have w2:n % 256=n:=by omega
  cases k <;> simp at o <;> simp [ty0,ext0,↓i_or8,t,n1,w1,w2,o]
theorem high {base:Nat} {C:Cx} {c n:Int} {k:Bool} (c0:0 ≤ c) (c3:c ≤ 3) (n0:31 ≤ n) (n1:n < 268435456) (H:HR base C) :
    Calls Go.Proofs.Tryd.prog 159 #[.agg #[.int .u8 c,.bool k,.int .u32 n]] C.w fun e w' => ∃ c',c'.w=w' ∧ c'.h=C.h ∧ HR base c' ∧ Ext base C c' ∧ ∃ val,e=.returned val ∧ RV c' (.tup [.sl false ((TG.tagO c k n).map (AV.int .u8)) (some (TG.tagO c k n).length),.int .i64 0]) val:=by
  obtain ⟨x0,hx0⟩:∃ x0,(if k then bits .or .u8 (bits .or .u8 (c * 64) 32) 31 else bits .or .u8 (c * 64) 31)=x0:=⟨_,rfl⟩
  have ex:x0=64 * c + (if k then 32 else 0) + 31:=by
    rw [← hx0]
    have:∀ (a:Fin 4) (k:Bool),(if k then bits .or .u8 (bits .or .u8 ((a.val:Int) * 64) 32) 31 else bits .or .u8 ((a.val:Int) * 64) 31)=64 * (a.val:Int) + (if k then 32 else 0) + 31:=by decide +kernel
    obtain ⟨a,rfl⟩:=Int.eq_ofNat_of_zero_le c0
    exact this ⟨a,by omega⟩ k
  have to:TG.tagO c k n=x0 :: TG.grp n:=by unfold TG.tagO; rw [if_neg (by omega),ex]
  refine (callsIn_wide.1 (Go.Proofs.G2.put_in Fence.wide 3 trivial trivial trivial trivial trivial rfl (by omega) c n x0 k c0 c3 n0 n1 hx0 C.w)).mono ?_
  rintro e w' ⟨g,cap,rfl,own,bel⟩
  let c':Cx:=⟨w',fun b => C.Rd b ∨ b=g,C.m,C.h⟩
  obtain ⟨hg,cells⟩:C.w.heap.size ≤ g ∧ ∀ j,j < (TG.grp n).length + 1 → w'.cell? ⟨g,j,none⟩=((Value.int .u8 x0 :: (TG.grp n).map (.int .u8)):List Value)[j]?:=by
    refine ⟨?_,fun j hj => own.cellAt j (by omega)⟩
    rcases own.2 with ⟨h',_⟩ | ⟨g',cap',cur,h',hb,_⟩
    · simp at h'
    · cases h'; exact hb
  have gl:g < w'.heap.size:=by
    have:=cells 0 (by omega)
    simp [World.cell?] at this
    split at this
    · rename_i e; exact (Array.getElem?_eq_some_iff.1 e).1
    · cases this
  have ext:Ext base C c':={
    os:=bel.os,tape:=bel.tape,output:=bel.output,size:=bel.size
    frame:=fun b hb _ => bel.block b hb
    rd:=fun b hb => .inl hb
    vk:=fun k hk => ⟨hk,rfl⟩
    newrd:=fun b hb => hb.elim .inl fun e => .inr (.inl (by omega))
    newmut:=fun b hb => .inl hb }
  have sz:∀ k o,lookK C.h k=some o → o.live=true → C.mu k < C.w.heap.size:=fun k o hk hl => by
    obtain ⟨arr,e,fr,q,_⟩:=H.obj k o hk hl
    exact (Array.getElem?_eq_some_iff.1 q).1
  have hr:HR base c':={
    obj:=fun k o hk hl => by
      obtain ⟨arr,e,fr,q1,q2,q3,q4,q5,q6⟩:=H.obj k o hk hl
      refine ⟨arr,e,fr,(bel.block _ (sz k o hk hl)).trans q1,q2,q3,q4,q5,fun i x hx => ?_⟩
      obtain ⟨v,r1,r2,r3⟩:=q6 i x hx
      exact ⟨v,r1,ext.rv H r2,r3⟩
    mt:=fun k o hk hl hm => ⟨fun hb => hb.elim (H.mt k o hk hl hm).1 fun e => by have:=sz k o hk hl; simp only [Cx.mu,c'] at e this; omega,(H.mt k o hk hl hm).2⟩
    sld:=fun k o hk hl hm => .inl (H.sld k o hk hl hm)
    inj:=H.inj
    rd:=fun b hb => hb.elim (fun q => Nat.lt_of_lt_of_le (H.rd b q) bel.size) fun e => e ▸ gl }
  refine ⟨c',rfl,rfl,hr,ext,_,rfl,.tup _ _ (.cons _ _ _ _ ?_ (.cons _ _ _ _ (.int _ _) .nil))⟩
  have:=RV.slC (c:=c') ((TG.tagO c k n).map (AV.int .u8)) ((TG.tagO c k n).map (Value.int .u8)) g 0 1 (some (TG.tagO c k n).length) (TG.tagO c k n).length (by rw [to]; simp) (bytes_RVs c' _) (fun v hv => by obtain ⟨z,_,rfl⟩:=List.mem_map.1 hv; rfl) (fun v hv => by obtain ⟨z,_,rfl⟩:=List.mem_map.1 hv; rfl) (.inr rfl)
    (fun i cell hi => by
      rw [bytes_cells] at hi
      rw [to] at hi
      have hlt:i < (TG.grp n).length + 1:=by have:=(List.getElem?_eq_some_iff.1 hi).1; simpa using this
      rw [Nat.zero_add]
      exact (cells i hlt).trans (by simpa using hi)) (by simp) (by simp)
  rw [List.length_map] at this
  have el:(TG.tagO c k n).length=(TG.grp n).length + 1:=by rw [to]; rfl
  rw [el] at this ⊢
  exact this
theorem prim:PrimOK Go.Proofs.Tryd.prog E 159 TG.tagP where
  fn:=⟨Go.Proofs.Tryd.f159,by kernel_rfl,by kernel_rfl,by kernel_rfl⟩
  call:=by
    intro args v hv hpa hpv base c vals H hb G hvs
    classical
    by_cases hl:∃ N,Con E0 N 159 args v
    · exact (prim_of env0 fnsOK0 mixed (E2:=E) rfl (f:=159) (fn:=fn159) rfl rfl (p:=fun a => if a=args ∧ (∃ N,Con E0 N 159 args v) then some v else none) (fun a u hu => by
        by_cases q:a=args ∧ (∃ N,Con E0 N 159 args v)
        · rw [if_pos q] at hu; cases hu; obtain ⟨rfl,N,hN⟩:=q; exact ⟨N,hN⟩
        · rw [if_neg q] at hu; cases hu)).call args v (if_pos ⟨rfl,hl⟩) hpa hpv base c vals H hb G hvs
    · unfold TG.tagP at hv
      split at hv
      case h_2 => cases hv
      rename_i t k n
      split at hv
      case isFalse => cases hv
      rename_i hbd
      cases hv
      by_cases he:Sp.tagE t k n=0
      case neg => exact absurd ⟨20,by rw [if_neg he]; exact bad t k n he⟩ hl
      have ⟨t3,n3⟩:t ≤ 3 ∧ n ≤ 268435455:=by
        unfold Sp.tagE at he
        split at he
        · cases he
        · omega
      by_cases hn:n < 31
      · have lo:=low t k n hbd.1 t3 hbd.2.2.1 hn he
        refine absurd ⟨20,?_⟩ hl
        rw [if_pos he,he]
        have e:TG.tagO t k n=[64 * t + (if k then 32 else 0) + n]:=by unfold TG.tagO; rw [if_pos hn]
        rw [e]
        exact lo
      rw [if_pos he,he]
      have ev:vals=[.agg #[.int .u8 t,.bool k,.int .u32 n]]:=by
        cases hvs with
        | cons _ v0 _ vs h0 h1 =>
          cases h1
          cases h0 with
          | agg _ ws h2 _ =>
            cases h2 with
            | cons _ _ _ _ a1 h3 => cases a1; cases h3 with
              | cons _ _ _ _ a2 h4 => cases a2; cases h4 with
                | cons _ _ _ _ a3 h5 => cases a3; cases h5; rfl
      subst ev
      exact high hbd.1 t3 (by omega) (by omega) H
theorem fnsOK:FnsOK Go.Proofs.Tryd.prog E:=.of rfl allFn (fun f p h => by
  unfold E primT at h
  simp only at h
  split at h
  · cases h; exact prim
  · cases h; exact GO5.prim21 E
  · cases h; exact GO5.prim117 E
  · cases h)
end G3
