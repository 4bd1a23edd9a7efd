/- Own work, no conditions. -/
import Derived.Test.YtalmnhdnclmhbaaT31
import Derived.Test.YtalmnhdnclmhbaaB38
import Derived.Test.YtalmnhdnclmhbaaTabBTie
import Derived.Test.YtalmnhdnclmhbaaRows
import Derived.WalkKit
import Derived.ProofKit
import Derived.OpenShut
import Derived.ShutString
import Derived.ChangeOld
import Derived.Below
import Derived.SizedLaws
import Derived.Test.YtalmnhdnclmhbaaT28
import Derived.Test.YtalmnhdnclmhbaaB40
set_option maxRecDepth 20000
set_option linter.unusedSimpArgs false
set_option linter.unusedVariables false
set_option maxHeartbeats 16000000
section
open Ab Go TabB
namespace T32
theorem law {n0 n1:Nat} {a0 a1:AV} (h0:Shp Go.Proofs.Try.prog n0 45 a0.cells) (s0:a0.scal = !aggTy Go.Proofs.Try.prog 45) (t0:∀ x,a0 ≠ .tup x) (h1:Shp Go.Proofs.Try.prog n1 5 a1.cells) (s1:a1.scal = !aggTy Go.Proofs.Try.prog 5) (t1:∀ x,a1 ≠ .tup x) :
    ∃ N,Con E N 9 [a0,a1] (.bool true):=by
  obtain ⟨w,e0,w0,w1⟩:=h0.int Go.Proofs.Try.underlying45
  obtain ⟨k,e1,k0,k1⟩:=h1.int Go.Proofs.Try.underlying5
  obtain rfl:=cells_one e0 (by rw [s0]; rfl)
  obtain rfl:=cells_one e1 (by rw [s1]; rfl)
  simp [IntKind.min,IntKind.max,IntKind.signed,IntKind.bits] at w0 w1 k0 k1
  exact ⟨1200,T31.law w k w0 (by omega) k0 (by omega)⟩
end T32
end
section
namespace Go.Proofs.Ytalmnhdnclmhbaa.bitstringsNamed
open Go.ChangeShapes Go.WideShapes Go.ChangeAt Go.RowKit
theorem own:ownKnob Try.prog.godebug=none:=by kernel_rfl
theorem laidOut:laidOutB Try.prog=true:=by kernel_rfl
theorem tys:∀ t,([45,5]:List TypeId).contains t=true → Ab.okTy Try.prog (fun t => ([45,5]:List TypeId).contains t) t=true:=Ab.allTy (by kernel_rfl)
set_option maxRecDepth 100000 in
theorem lifted (os:Os) (started:os.Started) (H:Type) (enc:TypeId × Value → H) :
    ReturnsInHanded {} Try.checked os 9 .any (Rows.bitstringsNamedSpec.pre6 enc Try.prog Try.f9 Rows.bitstringsNamedRow.domain false) (Rows.bitstringsNamedSpec.post enc Try.prog Try.f9 false true false false):=by
  refine returnsInHanded_of_change_sized (C:=Try.checked) own started (by kernel_rfl) Try.func9
    (ChangeSpec.witness6 (enc:=enc) (C:=Try.checked) false ⟨#[],#[.int .u64 0,.int .u8 0],[]⟩ 20 (by kernel_rfl) (by kernel_rfl) (by kernel_rfl) (by kernel_rfl)) ?_
  intro W base args ds gs before hval0 hW hcnd hsz0 _
  have hval:∀ (j:Nat) t v,Try.f9.params[j]? = some t → args[j]? = some v → Value.okWide Try.prog W .any base t v:=hval0
  have hW':=hW
  obtain ⟨p,q,hA0,hV,rfl,hfz,hnd⟩:=hW
  have hA:DataW.TrodAll enc Try.prog W 0 (fun _ => true) true Try.f9.params.toList args.toList ds p:=hA0
  rw [Try.params9] at hA hval
  obtain ⟨v0,vs0,d0,ds0,p0,q0,hargs,rfl,rfl,h0,r0⟩:=trodAll_cons hA
  obtain ⟨v1,vs1,d1,ds1,p1,q1,rfl,rfl,rfl,h1,r1⟩:=trodAll_cons r0
  obtain ⟨rfl,rfl,rfl⟩:=trodAll_nil r1
  obtain rfl:args = #[v0,v1]:=by cases args; simp_all
  obtain ⟨rfl,rfl⟩:=trodVars_none hV
  have lt0:∀ x ∈ p0,x.block < W.heap.size:=by obtain ⟨m,hm⟩:=h0; exact DataW.trod_lt m _ _ _ hm
  obtain ⟨m0,a0,rv0,pu0,sc0,nt0,sh0⟩:=Ab.arg_RV tys (t:=45) (by kernel_rfl) (hval 0 45 v0 rfl rfl) h0
  have lt1:∀ x ∈ p1,x.block < W.heap.size:=by obtain ⟨m,hm⟩:=h1; exact DataW.trod_lt m _ _ _ hm
  obtain ⟨m1,a1,rv1,pu1,sc1,nt1,sh1⟩:=Ab.arg_RV tys (t:=5) (by kernel_rfl) (hval 1 5 v1 rfl rfl) h1
  clear hA0 hval0 hsz0
  obtain ⟨n,hn⟩:=T32.law sh0 sc0 nt0 sh1 sc1 nt1
  refine (Ab.law_calls TabB.env TabB.fnsOK TabB.mixed (fn:=TabB.fn9) rfl rfl (fun i cs h => by cases h) (args:=[a0,a1]) (vals:=[v0,v1]) (hn n (Nat.le_refl _) 0 []) (.cons _ _ _ _ rv0 (.cons _ _ _ _ rv1 .nil))).mono fun e W' ⟨he,bel⟩ => ?_
  subst he
  exact ⟨_,rfl,_,_,_,[],_,[],hW',trodAll_mk1 (shut_bool Try.underlying4 _),(trodAll_cons_mk (Below.trod laidOut (by kernel_rfl) (of_decide_eq_true (by kernel_rfl)) h0 bel lt0) (trodAll_cons_mk (Below.trod laidOut (by kernel_rfl) (of_decide_eq_true (by kernel_rfl)) h1 bel lt1) trodAll_mk0)),rfl,bel.frame _,fun h => by cases h⟩
theorem over:Rows.bitstringsNamedRow.holds Try.pinned (OpenSpec.ofChange Rows.bitstringsNamedSpec) :=
  OpenClaim.holds_of_wide 9 Try.f9 rfl rfl rfl rfl rfl rfl rfl ⟨rfl,rfl,rfl,rfl,rfl⟩ rfl rfl rfl rfl rfl (by kernel_rfl) Try.func9 (by kernel_rfl)
    (of_decide_eq_true (by kernel_rfl)) (by unfold Func.isWrapper; first | (rw [if_pos (by decide +kernel)]; kernel_rfl) | (rw [if_neg (by decide +kernel)]; exact ⟨rfl,rfl⟩))
    (fun os started H enc _ => lifted os started H enc)
theorem proved:Rows.BitstringsNamedSaid:=over
#print axioms proved
end Go.Proofs.Ytalmnhdnclmhbaa.bitstringsNamed
namespace Go.Proofs.Ytalmnhdnclmhbaa
end Go.Proofs.Ytalmnhdnclmhbaa
end
section
open Ab Go TabB
attribute [local simp ↓] s_seq s_reg s_regd s_cond s_block s_cons s_consG
attribute [local simp] s_nil s_loop s_round s_lpn s_lpe s_lpr firstReg s_gt s_gf s_wb s_wu s_val s_valN s_skip s_calls s_callP s_cax lookR flatR pureKs s_ret s_rgx s_sqn s_sqr s_sqe s_cdb s_bkn s_bkr s_bke s_exit s_ret' s_skip' s_finr s_finn s_fin1 s_fix s_clean s_gc0 o_tmp o_int o_bool o_nil o_str o_fn o_nil' l_hit l_miss l_nil ol_nil ol_cons ol_some x_move x_assign x_pick pk_t pk_f x_bin bn_s x_un x_extract x_callF cl_no x_callB x_callBF frzV x_conv cvx convA frame0 binA intOp resL resA results1 sealA sealLW AV.pure AV.pureL keepT x_alloc x_box bxx x_build bdx x_buildSlice bsx x_buildSliceF bsf x_load ldx x_store stx x_slice slx x_fieldAddr x_field x_index ixx x_indexAddr iax x_makeSlice msx x_nilCheck newK genOf setK lookK fillA writeL writeC readC conts TyI.mk1 sliceA boundsA boundsB fitsA numA indexAddrA fieldAddrA partA fieldA indexA appendA copyA builtinA AV.cells AV.scal chunk gcH reach keysT keepK inKs AV.keys AV.keysL Ty.isAgg eq1 eqL convA.go ltI w_u8 w_u32 w_u64 w_i64 w_fdiv w_tdiv w_tmod IntKind.bits unA
section
open Ab Go TabB T1 T2 T3 T4 T7 T9 T10 T11 T12 T13 T34
namespace T36
abbrev el (c:Int) (k:Bool) (n:Int) (fb:Bool) (b:List Int) (cb:Option Nat) (fs:Bool) (ss:List AV) (cs:Option Nat):AV:=.agg [.int .u8 c,.bool k,.int .u32 n,.sl fb (bs b) cb,.sl fs ss cs]
abbrev zel:AV:=.agg [.int .u8 0,.bool false,.int .u32 0,.sl true [] (some 0),.sl true [] (some 0)]
theorem nz {v:Int} (hv:v ≠ 0):(v != 0)=true:=by simp [hv]
theorem join0 (f c) (b:List Int) (hl:b.length ≤ 65536):Con E 10 46 [.sl f (bs b) c,.sl true [] (some 0)] (.sl false (bs b) (some b.length)):=by
  have:=joined f true c (some 0) b [] (by omega) (by simp)
  rw [List.append_nil] at this
  exact this
theorem put_err (f c) (b:List Int) (n v:Int) (hv:v ≠ 0) (K:Con E 50 36 [.sl f (bs b) c,.int .i64 n] (.int .i64 v)):Con E 100 25 [.sl f (bs b) c,.int .i64 n] (.tup [.sl true [] (some 0),.int .i64 v]):=by
  refine .of (g:=[]) (by simp [AV.pureL,AV.pure,bs_pure]) ?_
  rw [aCall_fn rfl (E_fn25) (by simp [AV.pureL,AV.pure,bs_pure]) (Nat.le_of_ble_eq_true rfl) rfl rfl,body_25,c25]
  simp [bs_pure,K,hv,nz hv]
theorem elem_err (f c) (b:List Int) (n v:Int) (hv:v ≠ 0) (P:Con E 100 25 [.sl f (bs b) c,.int .i64 n] (.tup [.sl true [] (some 0),.int .i64 v])):Con E 120 37 [.sl f (bs b) c,.int .i64 n] (.tup [zel,.int .i64 v]):=by
  refine .of (g:=[]) (by simp [AV.pureL,AV.pure,bs_pure]) ?_
  rw [aCall_fn rfl (E_fn37) (by simp [AV.pureL,AV.pure,bs_pure]) (Nat.le_of_ble_eq_true rfl) rfl rfl,body_37,c37]
  simp [bs_pure,P,hv,nz hv]
theorem elem_ok (f c) (b xs:List Int) (n:Int) (m:Nat) (P:Con E 100 25 [.sl f (bs b) c,.int .i64 n] (.tup [.sl false (bs xs) (some m),.int .i64 0])):Con E 120 37 [.sl f (bs b) c,.int .i64 n] (.tup [el 0 false 3 false xs (some m) true [] (some 0),.int .i64 0]):=by
  refine .of (g:=[]) (by simp [AV.pureL,AV.pure,bs_pure]) ?_
  rw [aCall_fn rfl (E_fn37) (by simp [AV.pureL,AV.pure,bs_pure]) (Nat.le_of_ble_eq_true rfl) rfl rfl,body_37,c37]
  simp [bs_pure,P]
theorem bit_err (f c) (b:List Int) (n v i:Int) (hv:v ≠ 0) (K:Con E 50 36 [.sl f (bs b) c,.int .i64 n] (.int .i64 v)):Con E 60 40 [.sl f (bs b) c,.int .i64 n,.int .i64 i] (.bool false):=by
  refine .of (g:=[]) (by simp [AV.pureL,AV.pure,bs_pure]) ?_
  rw [aCall_fn rfl (E_fn40) (by simp [AV.pureL,AV.pure,bs_pure]) (Nat.le_of_ble_eq_true rfl) rfl rfl,body_40,c40]
  simp [bs_pure,K,hv,nz hv]
section
variable {c:Int} {k:Bool} {n:Int} {fb:Bool} {b:List Int} {cb:Option Nat} {fs:Bool} {ss:List AV} {cs:Option Nat}
def tagd (c:Int) (k:Bool) (n m:Int):Prop:=c=0 ∧ k=false ∧ n=m
theorem cont_tag (m:Int) (h:¬ tagd c k n m):Con E 20 50 [el c k n fb b cb fs ss cs,.int .u32 m] (.tup [.sl true [] (some 0),.int .i64 9]):=by
  refine .of (g:=[]) (by simp [AV.pureL,AV.pure,bs_pure]) ?_
  rw [aCall_fn rfl (E_fn50) (by simp [AV.pureL,AV.pure,bs_pure]) (Nat.le_of_ble_eq_true rfl) rfl rfl,body_50,c50]
  unfold tagd at h
  by_cases h1:c=0
  · by_cases h2:k=false
    · have h3:¬ n=m:=fun q => h ⟨h1,h2,q⟩
      have e3:(n != m)=true:=by simp [h3]
      simp [bs_pure,h1,h2,h3,fitZ]
    · have h2:k=true:=by simpa using h2
      simp [bs_pure,h1,h2,fitZ]
  · have e1:(c == 0)=false:=by simp [h1]
    simp [bs_pure,h1,e1,fitZ]
theorem cont_subs (m:Int) (h:tagd c k n m) (hs:ss ≠ []):Con E 20 50 [el c k n fb b cb fs ss cs,.int .u32 m] (.tup [.sl true [] (some 0),.int .i64 1]):=by
  refine .of (g:=[]) (by simp [AV.pureL,AV.pure,bs_pure]) ?_
  rw [aCall_fn rfl (E_fn50) (by simp [AV.pureL,AV.pure,bs_pure]) (Nat.le_of_ble_eq_true rfl) rfl rfl,body_50,c50]
  obtain ⟨rfl,rfl,rfl⟩:=h
  have hl:0 < ss.length:=List.length_pos_iff.2 hs
  simp [bs_pure,hl,fitZ]
theorem cont_ok (m:Int) (h:tagd c k n m):Con E 20 50 [el c k n fb b cb fs [] cs,.int .u32 m] (.tup [.sl fb (bs b) cb,.int .i64 0]):=by
  refine .of (g:=[]) (by simp [AV.pureL,AV.pure,bs_pure]) ?_
  rw [aCall_fn rfl (E_fn50) (by simp [AV.pureL,AV.pure,bs_pure]) (Nat.le_of_ble_eq_true rfl) rfl rfl,body_50,c50]
  obtain ⟨rfl,rfl,rfl⟩:=h
  simp [bs_pure,fitZ]
theorem of_err (v:Int) (hv:v ≠ 0) (C:Con E 20 50 [el c k n fb b cb fs ss cs,.int .u32 3] (.tup [.sl true [] (some 0),.int .i64 v])):Con E 120 38 [el c k n fb b cb fs ss cs] (.tup [.sl true [] (some 0),.int .i64 0,.int .i64 v]):=by
  refine .of (g:=[]) (by simp [AV.pureL,AV.pure,bs_pure]) ?_
  rw [aCall_fn rfl (E_fn38) (by simp [AV.pureL,AV.pure,bs_pure]) (Nat.le_of_ble_eq_true rfl) rfl rfl,body_38,c38]
  simp [bs_pure,C,hv,nz hv]
theorem of_get (h:tagd c k n 3) (f1:Bool) (xs:List Int) (c1:Option Nat) (j v:Int) (G:Con E 100 31 [.sl fb (bs b) cb] (.tup [.sl f1 (bs xs) c1,.int .i64 j,.int .i64 v])):Con E 120 38 [el c k n fb b cb fs [] cs] (.tup [.sl f1 (bs xs) c1,.int .i64 j,.int .i64 v]):=by
  have C:=cont_ok (fb:=fb) (b:=b) (cb:=cb) (fs:=fs) (cs:=cs) 3 h
  refine .of (g:=[]) (by simp [AV.pureL,AV.pure,bs_pure]) ?_
  rw [aCall_fn rfl (E_fn38) (by simp [AV.pureL,AV.pure,bs_pure]) (Nat.le_of_ble_eq_true rfl) rfl rfl,body_38,c38]
  simp [bs_pure,C,G]
theorem oct_err (v:Int) (hv:v ≠ 0) (C:Con E 20 50 [el c k n fb b cb fs ss cs,.int .u32 4] (.tup [.sl true [] (some 0),.int .i64 v])):Con E 120 33 [el c k n fb b cb fs ss cs] (.tup [.sl true [] (some 0),.int .i64 v]):=by
  refine .of (g:=[]) (by simp [AV.pureL,AV.pure,bs_pure]) ?_
  rw [aCall_fn rfl (E_fn33) (by simp [AV.pureL,AV.pure,bs_pure]) (Nat.le_of_ble_eq_true rfl) rfl rfl,body_33,c33]
  simp [bs_pure,C,hv,nz hv]
theorem oct_ok (h:tagd c k n 4) (hl:b.length ≤ 65536):Con E 120 33 [el c k n fb b cb fs [] cs] (.tup [.sl false (bs b) (some b.length),.int .i64 0]):=by
  have C:=cont_ok (fb:=fb) (b:=b) (cb:=cb) (fs:=fs) (cs:=cs) 4 h
  have J:=fun f c => join0 f c b hl
  have l0:¬ (65536:Int) < b.length:=by omega
  refine .of (g:=[]) (by simp [AV.pureL,AV.pure,bs_pure]) ?_
  rw [aCall_fn rfl (E_fn33) (by simp [AV.pureL,AV.pure,bs_pure]) (Nat.le_of_ble_eq_true rfl) rfl rfl,body_33,c33]
  simp [bs_pure,C,J,bs_length,l0]
theorem oct_big (h:tagd c k n 4) (hl:65536 < b.length):Con E 120 33 [el c k n fb b cb fs [] cs] (.tup [.sl true [] (some 0),.int .i64 3]):=by
  have C:=cont_ok (fb:=fb) (b:=b) (cb:=cb) (fs:=fs) (cs:=cs) 4 h
  have l0:(65536:Int) < b.length:=by omega
  refine .of (g:=[]) (by simp [AV.pureL,AV.pure,bs_pure]) ?_
  rw [aCall_fn rfl (E_fn33) (by simp [AV.pureL,AV.pure,bs_pure]) (Nat.le_of_ble_eq_true rfl) rfl rfl,body_33,c33]
  simp [bs_pure,C,bs_length,l0]
end
theorem octets (f c) (b:List Int) (hl:b.length ≤ 65536):Con E 120 32 [.sl f (bs b) c] (.tup [el 0 false 4 false b (some b.length) true [] (some 0),.int .i64 0]):=by
  have J:=fun f c => join0 f c b hl
  have l0:¬ (65536:Int) < b.length:=by omega
  refine .of (g:=[]) (by simp [AV.pureL,AV.pure,bs_pure]) ?_
  rw [aCall_fn rfl (E_fn32) (by simp [AV.pureL,AV.pure,bs_pure]) (Nat.le_of_ble_eq_true rfl) rfl rfl,body_32,c32]
  simp [bs_pure,J,bs_length,l0]
theorem octets_big (f c) (b:List Int) (hl:65536 < b.length):Con E 120 32 [.sl f (bs b) c] (.tup [zel,.int .i64 3]):=by
  have l0:(65536:Int) < b.length:=by omega
  refine .of (g:=[]) (by simp [AV.pureL,AV.pure,bs_pure]) ?_
  rw [aCall_fn rfl (E_fn32) (by simp [AV.pureL,AV.pure,bs_pure]) (Nat.le_of_ble_eq_true rfl) rfl rfl,body_32,c32]
  simp [bs_pure,bs_length,l0]
theorem is_ (m:Int) (fb:Bool) (b:List Int) (fs:Bool) (cs:Option Nat) (g:Bool) (d:Option Nat) (hb:isB b):Con E 40 39 [el 0 false m fb b (some b.length) fs [] cs,.int .i64 0,.int .u32 m,.sl g (bs b) d] (.bool true):=by
  have s:=same fb g d b 0 hb
  refine .of (g:=[]) (by simp [AV.pureL,AV.pure,bs_pure]) ?_
  rw [aCall_fn rfl (E_fn39) (by simp [AV.pureL,AV.pure,bs_pure]) (Nat.le_of_ble_eq_true rfl) rfl rfl,body_39,c39]
  simp [bs_pure,s,fitZ]
theorem gets (f c) (b:List Int) (hb:isB b) (hl:b.length ≤ 60):∃ (f1:Bool) (l:List Int) (c1:Option Nat) (v:Int) (f2:Bool) (xs:List Int) (f3:Bool) (c3:Option Nat),Con E 1000 22 [.sl f (bs b) c] (.tup [.sl f1 (is l) c1,.int .i64 v]) ∧ Con E 100 31 [.sl f (bs b) c] (.tup [.sl f2 (bs xs) (some xs.length),.int .i64 (l.length:Int),.int .i64 v]) ∧ Con E 1000 24 [.sl f1 (is l) c1] (.sl f3 (bs xs) c3) ∧ isB xs ∧ l.length ≤ 1000:=by
  have bad:∀ v,Con E 1000 22 [.sl f (bs b) c] (.tup [.sl true [] (some 0),.int .i64 v]) → ∀ g,Con E 100 31 [.sl f (bs b) c] (.tup [.sl g [] (some 0),.int .i64 0,.int .i64 v]) → ∃ (f1:Bool) (l:List Int) (c1:Option Nat) (v:Int) (f2:Bool) (xs:List Int) (f3:Bool) (c3:Option Nat),Con E 1000 22 [.sl f (bs b) c] (.tup [.sl f1 (is l) c1,.int .i64 v]) ∧ Con E 100 31 [.sl f (bs b) c] (.tup [.sl f2 (bs xs) (some xs.length),.int .i64 (l.length:Int),.int .i64 v]) ∧ Con E 1000 24 [.sl f1 (is l) c1] (.sl f3 (bs xs) c3) ∧ isB xs ∧ l.length ≤ 1000:=fun v R g G => ⟨true,[],some 0,v,g,[],true,some 0,R,G,(T6.bytes_nil true (some 0)).mono (by omega),isB_nil,by simp⟩
  match b,hb,hl with
  | [],_,_ => exact bad 11 (T8.get_nil f c) true (T9.get_nil f c)
  | x :: ys,hb,hl =>
    obtain ⟨⟨x0,x1⟩,hys⟩:=isB_cons.1 hb
    by_cases h7:7 < x
    · exact bad 11 (T8.get_big f c x ys h7) true (T9.get_big f c x ys h7)
    by_cases hy:ys=[]
    · subst hy
      by_cases hx:0 < x
      · exact bad 11 (T8.get_short f c x hx (by omega)) true (T9.get_short f c x hx (by omega))
      · obtain rfl:x=0:=by omega
        exact bad 0 (T8.get_zero f c) false (T9.get_zero f c)
    have hy1:0 < ys.length:=List.length_pos_iff.2 hy
    have hl:ys.length ≤ 59:=by simp at hl; omega
    obtain ⟨z,hz⟩:∃ z,ys[ys.length - 1]? = some z:=⟨ys[ys.length - 1]'(by omega),List.getElem?_eq_getElem _⟩
    have hzb:=hys z (List.mem_of_getElem? hz)
    have bl:=bits_length ys
    obtain ⟨xn,rfl⟩:=Int.eq_ofNat_of_zero_le x0
    obtain ⟨n,hn⟩:∃ n,n + xn=8 * ys.length:=⟨8 * ys.length - xn,by omega⟩
    by_cases hm:z % 2 ^ xn=0
    · have tl:=(T13.tail ys hys xn n z (by omega) hy hn hz).2 hm
      have ll:((bits ys).take n).length=n:=by rw [List.length_take]; omega
      have lb:T4.isBit ((bits ys).take n):=fun v hv => bits_bit ys hys v (List.mem_of_mem_take hv)
      have G:=T9.get_ok f c (xn:Int) z ys x0 (by omega) hy (by omega) hz hzb (by simpa using hm)
      have en:8 * (ys.length:Int) - (xn:Int)=(((bits ys).take n).length:Int):=by omega
      rw [en] at G
      have By:=T6.bytes_con false none ((bits ys).take n) lb (by omega) (by omega) 1000 (by omega)
      rw [bytes_back ys hys n xn (by omega) hn tl] at By
      exact ⟨false,(bits ys).take n,none,0,false,ys,false,none,T8.get_ok f c (xn:Int) ys hys x0 (by omega) hy (by omega) n (by omega) tl,G,By,hys,by omega⟩
    · have nt:¬ ∀ i,n ≤ i → i < (bits ys).length → (bits ys)[i]? = some 0:=fun q => hm ((T13.tail ys hys xn n z (by omega) hy hn hz).1 q)
      rcases T13.first xn (l:=bits ys) (n:=n) (by omega) with q | ⟨j,y,q1,q2,q3⟩
      · exact absurd q nt
      · exact bad 11 (T8.get_bad f c (xn:Int) ys hys x0 (by omega) hy (by omega) n (by omega) j y q1 q2 q3) true (T9.get_bad f c (xn:Int) z ys x0 (by omega) hy (by omega) hz hzb (by simpa using hm))
end T36
end
section
open Ab Go TabB T1 T2 T3 T4 T7 T9 T10 T11 T12 T13 T34 T35 T36
namespace T37
theorem sm (e:Int):Con E 20 26 [.sl true [] (some 0),.int .i64 e,.sl true [] (some 0),.int .i64 e] (.bool true):=same true true (some 0) [] e isB_nil
section
variable {fb:Bool} {cb:Option Nat} {b:List Int} {n:Int} {c:Int} {k:Bool} {m:Int} {f2:Bool} {b2:List Int} {c2:Option Nat} {fs:Bool} {ss:List AV} {cs:Option Nat}
theorem long (h:60 < b.length ∨ 60 < b2.length):Con E 1200 12 [.sl fb (bs b) cb,.int .i64 n,el c k m f2 b2 c2 fs ss cs] (.bool true):=by
  have lv:=T24.lives
  refine .of (g:=[]) (by simp [AV.pureL,AV.pure,bs_pure]) ?_
  rw [aCall_fn rfl (E_fn12) (by simp [AV.pureL,AV.pure,bs_pure]) (Nat.le_of_ble_eq_true rfl) rfl rfl,body_12,c12]
  by_cases q:60 < b.length
  · have q':(60:Int) < b.length:=by omega
    simp [bs_pure,bs_length,q,q',lv,-s_round]
  · have q':¬ (60:Int) < b.length:=by omega
    have h':(60:Int) < b2.length:=by omega
    simp [bs_pure,bs_length,q,q',h',lv,-s_round]
theorem a1z (hb:isB b) (hb2:isB b2) (l1:b.length ≤ 60) (l2:b2.length ≤ 60) (hs:ss ≠ []) (w0:ck b n=0):Con E 1200 12 [.sl fb (bs b) cb,.int .i64 n,el 0 false 3 f2 b2 c2 fs ss cs] (.bool true):=by
  have lv:=T24.lives
  have R:=fun f c => rchk f c b n hb l1
  have K:=fun f c => T34.chk f c b n hb (by omega)
  obtain ⟨f1,l,c1,v,g1,xs,f3,c3,Gr,Gg,By,xb,ll⟩:=gets f2 c2 b2 hb2 l2
  have By0:=T6.bytes_nil true (some 0)
  have q1:¬ (60:Int) < b.length:=by omega
  have q2:¬ (60:Int) < b2.length:=by omega
  have lp:=is_pure l
  have ln:=is_length l
  simp only [w0] at R K
  have sl:0 < ss.length:=List.length_pos_iff.2 hs
  have O:=fun fs cs => of_err (ss:=ss) (c:=0) (k:=false) (n:=3) (fb:=f2) (b:=b2) (cb:=c2) (fs:=fs) (cs:=cs) 1 (by omega) (cont_subs 3 ⟨rfl,rfl,rfl⟩ hs)
  have Q:=fun fs cs => oct_err (ss:=ss) (c:=0) (k:=false) (n:=3) (fb:=f2) (b:=b2) (cb:=c2) (fs:=fs) (cs:=cs) 9 (by omega) (cont_tag 4 (by simp [tagd]))
  have s1:=sm 1
  have s9:=sm 9
  refine .of (g:=[]) (by simp [AV.pureL,AV.pure,bs_pure]) ?_
  rw [aCall_fn rfl (E_fn12) (by simp [AV.pureL,AV.pure,bs_pure]) (Nat.le_of_ble_eq_true rfl) rfl rfl,body_12,c12]
  simp [-s_round,bs_pure,bs_length,q1,q2,lv,R,K,Gr,By0,lp,ln,fitZ,sl,hs,O,Q,s1,s9]
theorem a1n (hb:isB b) (hb2:isB b2) (l1:b.length ≤ 60) (l2:b2.length ≤ 60) (hs:ss ≠ []) (w0:ck b n ≠ 0):Con E 1200 12 [.sl fb (bs b) cb,.int .i64 n,el 0 false 3 f2 b2 c2 fs ss cs] (.bool true):=by
  have lv:=T24.lives
  have R:=fun f c => rchk f c b n hb l1
  have K:=fun f c => T34.chk f c b n hb (by omega)
  obtain ⟨f1,l,c1,v,g1,xs,f3,c3,Gr,Gg,By,xb,ll⟩:=gets f2 c2 b2 hb2 l2
  have By0:=T6.bytes_nil true (some 0)
  have q1:¬ (60:Int) < b.length:=by omega
  have q2:¬ (60:Int) < b2.length:=by omega
  have lp:=is_pure l
  have ln:=is_length l
  obtain ⟨w,hw⟩:∃ w,ck b n=w:=⟨_,rfl⟩
  rw [hw] at w0 R K
  have P:=fun f c => put_err f c b n w w0 (K f c)
  have Em:=fun f c => elem_err f c b n w w0 (P f c)
  have Bt:=fun f c => bit_err f c b n w 0 w0 (K f c)
  have sw:=sm w
  have wn:=nz w0
  simp only [zel] at Em
  have sl:0 < ss.length:=List.length_pos_iff.2 hs
  have O:=fun fs cs => of_err (ss:=ss) (c:=0) (k:=false) (n:=3) (fb:=f2) (b:=b2) (cb:=c2) (fs:=fs) (cs:=cs) 1 (by omega) (cont_subs 3 ⟨rfl,rfl,rfl⟩ hs)
  have Q:=fun fs cs => oct_err (ss:=ss) (c:=0) (k:=false) (n:=3) (fb:=f2) (b:=b2) (cb:=c2) (fs:=fs) (cs:=cs) 9 (by omega) (cont_tag 4 (by simp [tagd]))
  have s1:=sm 1
  have s9:=sm 9
  refine .of (g:=[]) (by simp [AV.pureL,AV.pure,bs_pure]) ?_
  rw [aCall_fn rfl (E_fn12) (by simp [AV.pureL,AV.pure,bs_pure]) (Nat.le_of_ble_eq_true rfl) rfl rfl,body_12,c12]
  simp [-s_round,bs_pure,bs_length,q1,q2,lv,R,K,Gr,By0,lp,ln,fitZ,sl,hs,O,Q,s1,s9,P,Em,Bt,sw,w0,wn]
theorem a2z (hb:isB b) (hb2:isB b2) (l1:b.length ≤ 60) (l2:b2.length ≤ 60) (w0:ck b n=0):Con E 1200 12 [.sl fb (bs b) cb,.int .i64 n,el 0 false 3 f2 b2 c2 fs [] cs] (.bool true):=by
  have lv:=T24.lives
  have R:=fun f c => rchk f c b n hb l1
  have K:=fun f c => T34.chk f c b n hb (by omega)
  obtain ⟨f1,l,c1,v,g1,xs,f3,c3,Gr,Gg,By,xb,ll⟩:=gets f2 c2 b2 hb2 l2
  have By0:=T6.bytes_nil true (some 0)
  have q1:¬ (60:Int) < b.length:=by omega
  have q2:¬ (60:Int) < b2.length:=by omega
  have lp:=is_pure l
  have ln:=is_length l
  simp only [w0] at R K
  have O:=fun fs cs => of_get (c:=0) (k:=false) (n:=3) (fb:=f2) (b:=b2) (cb:=c2) (fs:=fs) (cs:=cs) ⟨rfl,rfl,rfl⟩ g1 xs (some xs.length) (l.length:Int) v Gg
  have Q:=fun fs cs => oct_err (ss:=[]) (c:=0) (k:=false) (n:=3) (fb:=f2) (b:=b2) (cb:=c2) (fs:=fs) (cs:=cs) 9 (by omega) (cont_tag 4 (by simp [tagd]))
  have s2:=same g1 f3 c3 xs v xb
  have s9:=sm 9
  refine .of (g:=[]) (by simp [AV.pureL,AV.pure,bs_pure]) ?_
  rw [aCall_fn rfl (E_fn12) (by simp [AV.pureL,AV.pure,bs_pure]) (Nat.le_of_ble_eq_true rfl) rfl rfl,body_12,c12]
  simp [-s_round,bs_pure,bs_length,q1,q2,lv,R,K,Gr,By0,lp,ln,fitZ,O,Q,s2,s9,By]
theorem a2n (hb:isB b) (hb2:isB b2) (l1:b.length ≤ 60) (l2:b2.length ≤ 60) (w0:ck b n ≠ 0):Con E 1200 12 [.sl fb (bs b) cb,.int .i64 n,el 0 false 3 f2 b2 c2 fs [] cs] (.bool true):=by
  have lv:=T24.lives
  have R:=fun f c => rchk f c b n hb l1
  have K:=fun f c => T34.chk f c b n hb (by omega)
  obtain ⟨f1,l,c1,v,g1,xs,f3,c3,Gr,Gg,By,xb,ll⟩:=gets f2 c2 b2 hb2 l2
  have By0:=T6.bytes_nil true (some 0)
  have q1:¬ (60:Int) < b.length:=by omega
  have q2:¬ (60:Int) < b2.length:=by omega
  have lp:=is_pure l
  have ln:=is_length l
  obtain ⟨w,hw⟩:∃ w,ck b n=w:=⟨_,rfl⟩
  rw [hw] at w0 R K
  have P:=fun f c => put_err f c b n w w0 (K f c)
  have Em:=fun f c => elem_err f c b n w w0 (P f c)
  have Bt:=fun f c => bit_err f c b n w 0 w0 (K f c)
  have sw:=sm w
  have wn:=nz w0
  simp only [zel] at Em
  have O:=fun fs cs => of_get (c:=0) (k:=false) (n:=3) (fb:=f2) (b:=b2) (cb:=c2) (fs:=fs) (cs:=cs) ⟨rfl,rfl,rfl⟩ g1 xs (some xs.length) (l.length:Int) v Gg
  have Q:=fun fs cs => oct_err (ss:=[]) (c:=0) (k:=false) (n:=3) (fb:=f2) (b:=b2) (cb:=c2) (fs:=fs) (cs:=cs) 9 (by omega) (cont_tag 4 (by simp [tagd]))
  have s2:=same g1 f3 c3 xs v xb
  have s9:=sm 9
  refine .of (g:=[]) (by simp [AV.pureL,AV.pure,bs_pure]) ?_
  rw [aCall_fn rfl (E_fn12) (by simp [AV.pureL,AV.pure,bs_pure]) (Nat.le_of_ble_eq_true rfl) rfl rfl,body_12,c12]
  simp [-s_round,bs_pure,bs_length,q1,q2,lv,R,K,Gr,By0,lp,ln,fitZ,O,Q,s2,s9,By,P,Em,Bt,sw,w0,wn]
theorem b1z (hb:isB b) (hb2:isB b2) (l1:b.length ≤ 60) (l2:b2.length ≤ 60) (hs:ss ≠ []) (w0:ck b n=0):Con E 1200 12 [.sl fb (bs b) cb,.int .i64 n,el 0 false 4 f2 b2 c2 fs ss cs] (.bool true):=by
  have lv:=T24.lives
  have R:=fun f c => rchk f c b n hb l1
  have K:=fun f c => T34.chk f c b n hb (by omega)
  obtain ⟨f1,l,c1,v,g1,xs,f3,c3,Gr,Gg,By,xb,ll⟩:=gets f2 c2 b2 hb2 l2
  have By0:=T6.bytes_nil true (some 0)
  have q1:¬ (60:Int) < b.length:=by omega
  have q2:¬ (60:Int) < b2.length:=by omega
  have lp:=is_pure l
  have ln:=is_length l
  simp only [w0] at R K
  have sl:0 < ss.length:=List.length_pos_iff.2 hs
  have O:=fun fs cs => of_err (ss:=ss) (c:=0) (k:=false) (n:=4) (fb:=f2) (b:=b2) (cb:=c2) (fs:=fs) (cs:=cs) 9 (by omega) (cont_tag 3 (by simp [tagd]))
  have Q:=fun fs cs => oct_err (ss:=ss) (c:=0) (k:=false) (n:=4) (fb:=f2) (b:=b2) (cb:=c2) (fs:=fs) (cs:=cs) 1 (by omega) (cont_subs 4 ⟨rfl,rfl,rfl⟩ hs)
  have s1:=sm 1
  have s9:=sm 9
  refine .of (g:=[]) (by simp [AV.pureL,AV.pure,bs_pure]) ?_
  rw [aCall_fn rfl (E_fn12) (by simp [AV.pureL,AV.pure,bs_pure]) (Nat.le_of_ble_eq_true rfl) rfl rfl,body_12,c12]
  simp [-s_round,bs_pure,bs_length,q1,q2,lv,R,K,Gr,By0,lp,ln,fitZ,sl,hs,O,Q,s1,s9]
theorem b1n (hb:isB b) (hb2:isB b2) (l1:b.length ≤ 60) (l2:b2.length ≤ 60) (hs:ss ≠ []) (w0:ck b n ≠ 0):Con E 1200 12 [.sl fb (bs b) cb,.int .i64 n,el 0 false 4 f2 b2 c2 fs ss cs] (.bool true):=by
  have lv:=T24.lives
  have R:=fun f c => rchk f c b n hb l1
  have K:=fun f c => T34.chk f c b n hb (by omega)
  obtain ⟨f1,l,c1,v,g1,xs,f3,c3,Gr,Gg,By,xb,ll⟩:=gets f2 c2 b2 hb2 l2
  have By0:=T6.bytes_nil true (some 0)
  have q1:¬ (60:Int) < b.length:=by omega
  have q2:¬ (60:Int) < b2.length:=by omega
  have lp:=is_pure l
  have ln:=is_length l
  obtain ⟨w,hw⟩:∃ w,ck b n=w:=⟨_,rfl⟩
  rw [hw] at w0 R K
  have P:=fun f c => put_err f c b n w w0 (K f c)
  have Em:=fun f c => elem_err f c b n w w0 (P f c)
  have Bt:=fun f c => bit_err f c b n w 0 w0 (K f c)
  have sw:=sm w
  have wn:=nz w0
  simp only [zel] at Em
  have sl:0 < ss.length:=List.length_pos_iff.2 hs
  have O:=fun fs cs => of_err (ss:=ss) (c:=0) (k:=false) (n:=4) (fb:=f2) (b:=b2) (cb:=c2) (fs:=fs) (cs:=cs) 9 (by omega) (cont_tag 3 (by simp [tagd]))
  have Q:=fun fs cs => oct_err (ss:=ss) (c:=0) (k:=false) (n:=4) (fb:=f2) (b:=b2) (cb:=c2) (fs:=fs) (cs:=cs) 1 (by omega) (cont_subs 4 ⟨rfl,rfl,rfl⟩ hs)
  have s1:=sm 1
  have s9:=sm 9
  refine .of (g:=[]) (by simp [AV.pureL,AV.pure,bs_pure]) ?_
  rw [aCall_fn rfl (E_fn12) (by simp [AV.pureL,AV.pure,bs_pure]) (Nat.le_of_ble_eq_true rfl) rfl rfl,body_12,c12]
  simp [-s_round,bs_pure,bs_length,q1,q2,lv,R,K,Gr,By0,lp,ln,fitZ,sl,hs,O,Q,s1,s9,P,Em,Bt,sw,w0,wn]
theorem b2z (hb:isB b) (hb2:isB b2) (l1:b.length ≤ 60) (l2:b2.length ≤ 60) (w0:ck b n=0):Con E 1200 12 [.sl fb (bs b) cb,.int .i64 n,el 0 false 4 f2 b2 c2 fs [] cs] (.bool true):=by
  have lv:=T24.lives
  have R:=fun f c => rchk f c b n hb l1
  have K:=fun f c => T34.chk f c b n hb (by omega)
  obtain ⟨f1,l,c1,v,g1,xs,f3,c3,Gr,Gg,By,xb,ll⟩:=gets f2 c2 b2 hb2 l2
  have By0:=T6.bytes_nil true (some 0)
  have q1:¬ (60:Int) < b.length:=by omega
  have q2:¬ (60:Int) < b2.length:=by omega
  have lp:=is_pure l
  have ln:=is_length l
  simp only [w0] at R K
  have O:=fun fs cs => of_err (ss:=[]) (c:=0) (k:=false) (n:=4) (fb:=f2) (b:=b2) (cb:=c2) (fs:=fs) (cs:=cs) 9 (by omega) (cont_tag 3 (by simp [tagd]))
  have Q:=fun fs cs => oct_ok (c:=0) (k:=false) (n:=4) (fb:=f2) (b:=b2) (cb:=c2) (fs:=fs) (cs:=cs) ⟨rfl,rfl,rfl⟩ (by omega)
  have s9:=sm 9
  have s2:=same false f2 c2 b2 0 hb2
  have oc:=octets false (some b2.length) b2 (by omega)
  have iz:=is_ 4 false b2 true (some 0) f2 c2 hb2
  refine .of (g:=[]) (by simp [AV.pureL,AV.pure,bs_pure]) ?_
  rw [aCall_fn rfl (E_fn12) (by simp [AV.pureL,AV.pure,bs_pure]) (Nat.le_of_ble_eq_true rfl) rfl rfl,body_12,c12]
  simp [-s_round,bs_pure,bs_length,q1,q2,lv,R,K,Gr,By0,lp,ln,fitZ,O,Q,s2,s9,oc,iz]
theorem b2n (hb:isB b) (hb2:isB b2) (l1:b.length ≤ 60) (l2:b2.length ≤ 60) (w0:ck b n ≠ 0):Con E 1200 12 [.sl fb (bs b) cb,.int .i64 n,el 0 false 4 f2 b2 c2 fs [] cs] (.bool true):=by
  have lv:=T24.lives
  have R:=fun f c => rchk f c b n hb l1
  have K:=fun f c => T34.chk f c b n hb (by omega)
  obtain ⟨f1,l,c1,v,g1,xs,f3,c3,Gr,Gg,By,xb,ll⟩:=gets f2 c2 b2 hb2 l2
  have By0:=T6.bytes_nil true (some 0)
  have q1:¬ (60:Int) < b.length:=by omega
  have q2:¬ (60:Int) < b2.length:=by omega
  have lp:=is_pure l
  have ln:=is_length l
  obtain ⟨w,hw⟩:∃ w,ck b n=w:=⟨_,rfl⟩
  rw [hw] at w0 R K
  have P:=fun f c => put_err f c b n w w0 (K f c)
  have Em:=fun f c => elem_err f c b n w w0 (P f c)
  have Bt:=fun f c => bit_err f c b n w 0 w0 (K f c)
  have sw:=sm w
  have wn:=nz w0
  simp only [zel] at Em
  have O:=fun fs cs => of_err (ss:=[]) (c:=0) (k:=false) (n:=4) (fb:=f2) (b:=b2) (cb:=c2) (fs:=fs) (cs:=cs) 9 (by omega) (cont_tag 3 (by simp [tagd]))
  have Q:=fun fs cs => oct_ok (c:=0) (k:=false) (n:=4) (fb:=f2) (b:=b2) (cb:=c2) (fs:=fs) (cs:=cs) ⟨rfl,rfl,rfl⟩ (by omega)
  have s9:=sm 9
  have s2:=same false f2 c2 b2 0 hb2
  have oc:=octets false (some b2.length) b2 (by omega)
  have iz:=is_ 4 false b2 true (some 0) f2 c2 hb2
  refine .of (g:=[]) (by simp [AV.pureL,AV.pure,bs_pure]) ?_
  rw [aCall_fn rfl (E_fn12) (by simp [AV.pureL,AV.pure,bs_pure]) (Nat.le_of_ble_eq_true rfl) rfl rfl,body_12,c12]
  simp [-s_round,bs_pure,bs_length,q1,q2,lv,R,K,Gr,By0,lp,ln,fitZ,O,Q,s2,s9,oc,iz,P,Em,Bt,sw,w0,wn]
theorem c1z (hb:isB b) (hb2:isB b2) (l1:b.length ≤ 60) (l2:b2.length ≤ 60) (hs:ss ≠ []) (h1:c ≠ 0) (w0:ck b n=0):Con E 1200 12 [.sl fb (bs b) cb,.int .i64 n,el c k m f2 b2 c2 fs ss cs] (.bool true):=by
  have lv:=T24.lives
  have R:=fun f c => rchk f c b n hb l1
  have K:=fun f c => T34.chk f c b n hb (by omega)
  obtain ⟨f1,l,c1,v,g1,xs,f3,c3,Gr,Gg,By,xb,ll⟩:=gets f2 c2 b2 hb2 l2
  have By0:=T6.bytes_nil true (some 0)
  have q1:¬ (60:Int) < b.length:=by omega
  have q2:¬ (60:Int) < b2.length:=by omega
  have lp:=is_pure l
  have ln:=is_length l
  simp only [w0] at R K
  have sl:0 < ss.length:=List.length_pos_iff.2 hs
  have O:=fun fs cs => of_err (ss:=ss) (c:=c) (k:=k) (n:=m) (fb:=f2) (b:=b2) (cb:=c2) (fs:=fs) (cs:=cs) 9 (by omega) (cont_tag 3 (by simp [tagd,h1]))
  have Q:=fun fs cs => oct_err (ss:=ss) (c:=c) (k:=k) (n:=m) (fb:=f2) (b:=b2) (cb:=c2) (fs:=fs) (cs:=cs) 9 (by omega) (cont_tag 4 (by simp [tagd,h1]))
  have s9:=sm 9
  refine .of (g:=[]) (by simp [AV.pureL,AV.pure,bs_pure]) ?_
  rw [aCall_fn rfl (E_fn12) (by simp [AV.pureL,AV.pure,bs_pure]) (Nat.le_of_ble_eq_true rfl) rfl rfl,body_12,c12]
  simp [-s_round,bs_pure,bs_length,q1,q2,lv,R,K,Gr,By0,lp,ln,fitZ,sl,hs,O,Q,s9,h1,nz h1,show (c == 0)=false by simp [h1]]
theorem c1n (hb:isB b) (hb2:isB b2) (l1:b.length ≤ 60) (l2:b2.length ≤ 60) (hs:ss ≠ []) (h1:c ≠ 0) (w0:ck b n ≠ 0):Con E 1200 12 [.sl fb (bs b) cb,.int .i64 n,el c k m f2 b2 c2 fs ss cs] (.bool true):=by
  have lv:=T24.lives
  have R:=fun f c => rchk f c b n hb l1
  have K:=fun f c => T34.chk f c b n hb (by omega)
  obtain ⟨f1,l,c1,v,g1,xs,f3,c3,Gr,Gg,By,xb,ll⟩:=gets f2 c2 b2 hb2 l2
  have By0:=T6.bytes_nil true (some 0)
  have q1:¬ (60:Int) < b.length:=by omega
  have q2:¬ (60:Int) < b2.length:=by omega
  have lp:=is_pure l
  have ln:=is_length l
  obtain ⟨w,hw⟩:∃ w,ck b n=w:=⟨_,rfl⟩
  rw [hw] at w0 R K
  have P:=fun f c => put_err f c b n w w0 (K f c)
  have Em:=fun f c => elem_err f c b n w w0 (P f c)
  have Bt:=fun f c => bit_err f c b n w 0 w0 (K f c)
  have sw:=sm w
  have wn:=nz w0
  simp only [zel] at Em
  have sl:0 < ss.length:=List.length_pos_iff.2 hs
  have O:=fun fs cs => of_err (ss:=ss) (c:=c) (k:=k) (n:=m) (fb:=f2) (b:=b2) (cb:=c2) (fs:=fs) (cs:=cs) 9 (by omega) (cont_tag 3 (by simp [tagd,h1]))
  have Q:=fun fs cs => oct_err (ss:=ss) (c:=c) (k:=k) (n:=m) (fb:=f2) (b:=b2) (cb:=c2) (fs:=fs) (cs:=cs) 9 (by omega) (cont_tag 4 (by simp [tagd,h1]))
  have s9:=sm 9
  refine .of (g:=[]) (by simp [AV.pureL,AV.pure,bs_pure]) ?_
  rw [aCall_fn rfl (E_fn12) (by simp [AV.pureL,AV.pure,bs_pure]) (Nat.le_of_ble_eq_true rfl) rfl rfl,body_12,c12]
  simp [-s_round,bs_pure,bs_length,q1,q2,lv,R,K,Gr,By0,lp,ln,fitZ,sl,hs,O,Q,s9,h1,nz h1,show (c == 0)=false by simp [h1],P,Em,Bt,sw,w0,wn]
theorem c2z (hb:isB b) (hb2:isB b2) (l1:b.length ≤ 60) (l2:b2.length ≤ 60) (h1:c ≠ 0) (w0:ck b n=0):Con E 1200 12 [.sl fb (bs b) cb,.int .i64 n,el c k m f2 b2 c2 fs [] cs] (.bool true):=by
  have lv:=T24.lives
  have R:=fun f c => rchk f c b n hb l1
  have K:=fun f c => T34.chk f c b n hb (by omega)
  obtain ⟨f1,l,c1,v,g1,xs,f3,c3,Gr,Gg,By,xb,ll⟩:=gets f2 c2 b2 hb2 l2
  have By0:=T6.bytes_nil true (some 0)
  have q1:¬ (60:Int) < b.length:=by omega
  have q2:¬ (60:Int) < b2.length:=by omega
  have lp:=is_pure l
  have ln:=is_length l
  simp only [w0] at R K
  have O:=fun fs cs => of_err (ss:=[]) (c:=c) (k:=k) (n:=m) (fb:=f2) (b:=b2) (cb:=c2) (fs:=fs) (cs:=cs) 9 (by omega) (cont_tag 3 (by simp [tagd,h1]))
  have Q:=fun fs cs => oct_err (ss:=[]) (c:=c) (k:=k) (n:=m) (fb:=f2) (b:=b2) (cb:=c2) (fs:=fs) (cs:=cs) 9 (by omega) (cont_tag 4 (by simp [tagd,h1]))
  have s9:=sm 9
  refine .of (g:=[]) (by simp [AV.pureL,AV.pure,bs_pure]) ?_
  rw [aCall_fn rfl (E_fn12) (by simp [AV.pureL,AV.pure,bs_pure]) (Nat.le_of_ble_eq_true rfl) rfl rfl,body_12,c12]
  simp [-s_round,bs_pure,bs_length,q1,q2,lv,R,K,Gr,By0,lp,ln,fitZ,O,Q,s9,h1,nz h1,show (c == 0)=false by simp [h1]]
theorem c2n (hb:isB b) (hb2:isB b2) (l1:b.length ≤ 60) (l2:b2.length ≤ 60) (h1:c ≠ 0) (w0:ck b n ≠ 0):Con E 1200 12 [.sl fb (bs b) cb,.int .i64 n,el c k m f2 b2 c2 fs [] cs] (.bool true):=by
  have lv:=T24.lives
  have R:=fun f c => rchk f c b n hb l1
  have K:=fun f c => T34.chk f c b n hb (by omega)
  obtain ⟨f1,l,c1,v,g1,xs,f3,c3,Gr,Gg,By,xb,ll⟩:=gets f2 c2 b2 hb2 l2
  have By0:=T6.bytes_nil true (some 0)
  have q1:¬ (60:Int) < b.length:=by omega
  have q2:¬ (60:Int) < b2.length:=by omega
  have lp:=is_pure l
  have ln:=is_length l
  obtain ⟨w,hw⟩:∃ w,ck b n=w:=⟨_,rfl⟩
  rw [hw] at w0 R K
  have P:=fun f c => put_err f c b n w w0 (K f c)
  have Em:=fun f c => elem_err f c b n w w0 (P f c)
  have Bt:=fun f c => bit_err f c b n w 0 w0 (K f c)
  have sw:=sm w
  have wn:=nz w0
  simp only [zel] at Em
  have O:=fun fs cs => of_err (ss:=[]) (c:=c) (k:=k) (n:=m) (fb:=f2) (b:=b2) (cb:=c2) (fs:=fs) (cs:=cs) 9 (by omega) (cont_tag 3 (by simp [tagd,h1]))
  have Q:=fun fs cs => oct_err (ss:=[]) (c:=c) (k:=k) (n:=m) (fb:=f2) (b:=b2) (cb:=c2) (fs:=fs) (cs:=cs) 9 (by omega) (cont_tag 4 (by simp [tagd,h1]))
  have s9:=sm 9
  refine .of (g:=[]) (by simp [AV.pureL,AV.pure,bs_pure]) ?_
  rw [aCall_fn rfl (E_fn12) (by simp [AV.pureL,AV.pure,bs_pure]) (Nat.le_of_ble_eq_true rfl) rfl rfl,body_12,c12]
  simp [-s_round,bs_pure,bs_length,q1,q2,lv,R,K,Gr,By0,lp,ln,fitZ,O,Q,s9,h1,nz h1,show (c == 0)=false by simp [h1],P,Em,Bt,sw,w0,wn]
theorem d1z (hb:isB b) (hb2:isB b2) (l1:b.length ≤ 60) (l2:b2.length ≤ 60) (hs:ss ≠ []) (w0:ck b n=0):Con E 1200 12 [.sl fb (bs b) cb,.int .i64 n,el 0 true m f2 b2 c2 fs ss cs] (.bool true):=by
  have lv:=T24.lives
  have R:=fun f c => rchk f c b n hb l1
  have K:=fun f c => T34.chk f c b n hb (by omega)
  obtain ⟨f1,l,c1,v,g1,xs,f3,c3,Gr,Gg,By,xb,ll⟩:=gets f2 c2 b2 hb2 l2
  have By0:=T6.bytes_nil true (some 0)
  have q1:¬ (60:Int) < b.length:=by omega
  have q2:¬ (60:Int) < b2.length:=by omega
  have lp:=is_pure l
  have ln:=is_length l
  simp only [w0] at R K
  have sl:0 < ss.length:=List.length_pos_iff.2 hs
  have O:=fun fs cs => of_err (ss:=ss) (c:=0) (k:=true) (n:=m) (fb:=f2) (b:=b2) (cb:=c2) (fs:=fs) (cs:=cs) 9 (by omega) (cont_tag 3 (by simp [tagd]))
  have Q:=fun fs cs => oct_err (ss:=ss) (c:=0) (k:=true) (n:=m) (fb:=f2) (b:=b2) (cb:=c2) (fs:=fs) (cs:=cs) 9 (by omega) (cont_tag 4 (by simp [tagd]))
  have s9:=sm 9
  refine .of (g:=[]) (by simp [AV.pureL,AV.pure,bs_pure]) ?_
  rw [aCall_fn rfl (E_fn12) (by simp [AV.pureL,AV.pure,bs_pure]) (Nat.le_of_ble_eq_true rfl) rfl rfl,body_12,c12]
  simp [-s_round,bs_pure,bs_length,q1,q2,lv,R,K,Gr,By0,lp,ln,fitZ,sl,hs,O,Q,s9]
theorem d1n (hb:isB b) (hb2:isB b2) (l1:b.length ≤ 60) (l2:b2.length ≤ 60) (hs:ss ≠ []) (w0:ck b n ≠ 0):Con E 1200 12 [.sl fb (bs b) cb,.int .i64 n,el 0 true m f2 b2 c2 fs ss cs] (.bool true):=by
  have lv:=T24.lives
  have R:=fun f c => rchk f c b n hb l1
  have K:=fun f c => T34.chk f c b n hb (by omega)
  obtain ⟨f1,l,c1,v,g1,xs,f3,c3,Gr,Gg,By,xb,ll⟩:=gets f2 c2 b2 hb2 l2
  have By0:=T6.bytes_nil true (some 0)
  have q1:¬ (60:Int) < b.length:=by omega
  have q2:¬ (60:Int) < b2.length:=by omega
  have lp:=is_pure l
  have ln:=is_length l
  obtain ⟨w,hw⟩:∃ w,ck b n=w:=⟨_,rfl⟩
  rw [hw] at w0 R K
  have P:=fun f c => put_err f c b n w w0 (K f c)
  have Em:=fun f c => elem_err f c b n w w0 (P f c)
  have Bt:=fun f c => bit_err f c b n w 0 w0 (K f c)
  have sw:=sm w
  have wn:=nz w0
  simp only [zel] at Em
  have sl:0 < ss.length:=List.length_pos_iff.2 hs
  have O:=fun fs cs => of_err (ss:=ss) (c:=0) (k:=true) (n:=m) (fb:=f2) (b:=b2) (cb:=c2) (fs:=fs) (cs:=cs) 9 (by omega) (cont_tag 3 (by simp [tagd]))
  have Q:=fun fs cs => oct_err (ss:=ss) (c:=0) (k:=true) (n:=m) (fb:=f2) (b:=b2) (cb:=c2) (fs:=fs) (cs:=cs) 9 (by omega) (cont_tag 4 (by simp [tagd]))
  have s9:=sm 9
  refine .of (g:=[]) (by simp [AV.pureL,AV.pure,bs_pure]) ?_
  rw [aCall_fn rfl (E_fn12) (by simp [AV.pureL,AV.pure,bs_pure]) (Nat.le_of_ble_eq_true rfl) rfl rfl,body_12,c12]
  simp [-s_round,bs_pure,bs_length,q1,q2,lv,R,K,Gr,By0,lp,ln,fitZ,sl,hs,O,Q,s9,P,Em,Bt,sw,w0,wn]
theorem d2z (hb:isB b) (hb2:isB b2) (l1:b.length ≤ 60) (l2:b2.length ≤ 60) (w0:ck b n=0):Con E 1200 12 [.sl fb (bs b) cb,.int .i64 n,el 0 true m f2 b2 c2 fs [] cs] (.bool true):=by
  have lv:=T24.lives
  have R:=fun f c => rchk f c b n hb l1
  have K:=fun f c => T34.chk f c b n hb (by omega)
  obtain ⟨f1,l,c1,v,g1,xs,f3,c3,Gr,Gg,By,xb,ll⟩:=gets f2 c2 b2 hb2 l2
  have By0:=T6.bytes_nil true (some 0)
  have q1:¬ (60:Int) < b.length:=by omega
  have q2:¬ (60:Int) < b2.length:=by omega
  have lp:=is_pure l
  have ln:=is_length l
  simp only [w0] at R K
  have O:=fun fs cs => of_err (ss:=[]) (c:=0) (k:=true) (n:=m) (fb:=f2) (b:=b2) (cb:=c2) (fs:=fs) (cs:=cs) 9 (by omega) (cont_tag 3 (by simp [tagd]))
  have Q:=fun fs cs => oct_err (ss:=[]) (c:=0) (k:=true) (n:=m) (fb:=f2) (b:=b2) (cb:=c2) (fs:=fs) (cs:=cs) 9 (by omega) (cont_tag 4 (by simp [tagd]))
  have s9:=sm 9
  refine .of (g:=[]) (by simp [AV.pureL,AV.pure,bs_pure]) ?_
  rw [aCall_fn rfl (E_fn12) (by simp [AV.pureL,AV.pure,bs_pure]) (Nat.le_of_ble_eq_true rfl) rfl rfl,body_12,c12]
  simp [-s_round,bs_pure,bs_length,q1,q2,lv,R,K,Gr,By0,lp,ln,fitZ,O,Q,s9]
theorem d2n (hb:isB b) (hb2:isB b2) (l1:b.length ≤ 60) (l2:b2.length ≤ 60) (w0:ck b n ≠ 0):Con E 1200 12 [.sl fb (bs b) cb,.int .i64 n,el 0 true m f2 b2 c2 fs [] cs] (.bool true):=by
  have lv:=T24.lives
  have R:=fun f c => rchk f c b n hb l1
  have K:=fun f c => T34.chk f c b n hb (by omega)
  obtain ⟨f1,l,c1,v,g1,xs,f3,c3,Gr,Gg,By,xb,ll⟩:=gets f2 c2 b2 hb2 l2
  have By0:=T6.bytes_nil true (some 0)
  have q1:¬ (60:Int) < b.length:=by omega
  have q2:¬ (60:Int) < b2.length:=by omega
  have lp:=is_pure l
  have ln:=is_length l
  obtain ⟨w,hw⟩:∃ w,ck b n=w:=⟨_,rfl⟩
  rw [hw] at w0 R K
  have P:=fun f c => put_err f c b n w w0 (K f c)
  have Em:=fun f c => elem_err f c b n w w0 (P f c)
  have Bt:=fun f c => bit_err f c b n w 0 w0 (K f c)
  have sw:=sm w
  have wn:=nz w0
  simp only [zel] at Em
  have O:=fun fs cs => of_err (ss:=[]) (c:=0) (k:=true) (n:=m) (fb:=f2) (b:=b2) (cb:=c2) (fs:=fs) (cs:=cs) 9 (by omega) (cont_tag 3 (by simp [tagd]))
  have Q:=fun fs cs => oct_err (ss:=[]) (c:=0) (k:=true) (n:=m) (fb:=f2) (b:=b2) (cb:=c2) (fs:=fs) (cs:=cs) 9 (by omega) (cont_tag 4 (by simp [tagd]))
  have s9:=sm 9
  refine .of (g:=[]) (by simp [AV.pureL,AV.pure,bs_pure]) ?_
  rw [aCall_fn rfl (E_fn12) (by simp [AV.pureL,AV.pure,bs_pure]) (Nat.le_of_ble_eq_true rfl) rfl rfl,body_12,c12]
  simp [-s_round,bs_pure,bs_length,q1,q2,lv,R,K,Gr,By0,lp,ln,fitZ,O,Q,s9,P,Em,Bt,sw,w0,wn]
theorem e1z (hb:isB b) (hb2:isB b2) (l1:b.length ≤ 60) (l2:b2.length ≤ 60) (hs:ss ≠ []) (h3:m ≠ 3) (h4:m ≠ 4) (w0:ck b n=0):Con E 1200 12 [.sl fb (bs b) cb,.int .i64 n,el 0 false m f2 b2 c2 fs ss cs] (.bool true):=by
  have lv:=T24.lives
  have R:=fun f c => rchk f c b n hb l1
  have K:=fun f c => T34.chk f c b n hb (by omega)
  obtain ⟨f1,l,c1,v,g1,xs,f3,c3,Gr,Gg,By,xb,ll⟩:=gets f2 c2 b2 hb2 l2
  have By0:=T6.bytes_nil true (some 0)
  have q1:¬ (60:Int) < b.length:=by omega
  have q2:¬ (60:Int) < b2.length:=by omega
  have lp:=is_pure l
  have ln:=is_length l
  simp only [w0] at R K
  have sl:0 < ss.length:=List.length_pos_iff.2 hs
  have O:=fun fs cs => of_err (ss:=ss) (c:=0) (k:=false) (n:=m) (fb:=f2) (b:=b2) (cb:=c2) (fs:=fs) (cs:=cs) 9 (by omega) (cont_tag 3 (by simp [tagd,h3]))
  have Q:=fun fs cs => oct_err (ss:=ss) (c:=0) (k:=false) (n:=m) (fb:=f2) (b:=b2) (cb:=c2) (fs:=fs) (cs:=cs) 9 (by omega) (cont_tag 4 (by simp [tagd,h4]))
  have s9:=sm 9
  refine .of (g:=[]) (by simp [AV.pureL,AV.pure,bs_pure]) ?_
  rw [aCall_fn rfl (E_fn12) (by simp [AV.pureL,AV.pure,bs_pure]) (Nat.le_of_ble_eq_true rfl) rfl rfl,body_12,c12]
  simp [-s_round,bs_pure,bs_length,q1,q2,lv,R,K,Gr,By0,lp,ln,fitZ,sl,hs,O,Q,s9,h3,h4,show (m == 3)=false by simp [h3],show (m == 4)=false by simp [h4]]
theorem e1n (hb:isB b) (hb2:isB b2) (l1:b.length ≤ 60) (l2:b2.length ≤ 60) (hs:ss ≠ []) (h3:m ≠ 3) (h4:m ≠ 4) (w0:ck b n ≠ 0):Con E 1200 12 [.sl fb (bs b) cb,.int .i64 n,el 0 false m f2 b2 c2 fs ss cs] (.bool true):=by
  have lv:=T24.lives
  have R:=fun f c => rchk f c b n hb l1
  have K:=fun f c => T34.chk f c b n hb (by omega)
  obtain ⟨f1,l,c1,v,g1,xs,f3,c3,Gr,Gg,By,xb,ll⟩:=gets f2 c2 b2 hb2 l2
  have By0:=T6.bytes_nil true (some 0)
  have q1:¬ (60:Int) < b.length:=by omega
  have q2:¬ (60:Int) < b2.length:=by omega
  have lp:=is_pure l
  have ln:=is_length l
  obtain ⟨w,hw⟩:∃ w,ck b n=w:=⟨_,rfl⟩
  rw [hw] at w0 R K
  have P:=fun f c => put_err f c b n w w0 (K f c)
  have Em:=fun f c => elem_err f c b n w w0 (P f c)
  have Bt:=fun f c => bit_err f c b n w 0 w0 (K f c)
  have sw:=sm w
  have wn:=nz w0
  simp only [zel] at Em
  have sl:0 < ss.length:=List.length_pos_iff.2 hs
  have O:=fun fs cs => of_err (ss:=ss) (c:=0) (k:=false) (n:=m) (fb:=f2) (b:=b2) (cb:=c2) (fs:=fs) (cs:=cs) 9 (by omega) (cont_tag 3 (by simp [tagd,h3]))
  have Q:=fun fs cs => oct_err (ss:=ss) (c:=0) (k:=false) (n:=m) (fb:=f2) (b:=b2) (cb:=c2) (fs:=fs) (cs:=cs) 9 (by omega) (cont_tag 4 (by simp [tagd,h4]))
  have s9:=sm 9
  refine .of (g:=[]) (by simp [AV.pureL,AV.pure,bs_pure]) ?_
  rw [aCall_fn rfl (E_fn12) (by simp [AV.pureL,AV.pure,bs_pure]) (Nat.le_of_ble_eq_true rfl) rfl rfl,body_12,c12]
  simp [-s_round,bs_pure,bs_length,q1,q2,lv,R,K,Gr,By0,lp,ln,fitZ,sl,hs,O,Q,s9,h3,h4,show (m == 3)=false by simp [h3],show (m == 4)=false by simp [h4],P,Em,Bt,sw,w0,wn]
theorem e2z (hb:isB b) (hb2:isB b2) (l1:b.length ≤ 60) (l2:b2.length ≤ 60) (h3:m ≠ 3) (h4:m ≠ 4) (w0:ck b n=0):Con E 1200 12 [.sl fb (bs b) cb,.int .i64 n,el 0 false m f2 b2 c2 fs [] cs] (.bool true):=by
  have lv:=T24.lives
  have R:=fun f c => rchk f c b n hb l1
  have K:=fun f c => T34.chk f c b n hb (by omega)
  obtain ⟨f1,l,c1,v,g1,xs,f3,c3,Gr,Gg,By,xb,ll⟩:=gets f2 c2 b2 hb2 l2
  have By0:=T6.bytes_nil true (some 0)
  have q1:¬ (60:Int) < b.length:=by omega
  have q2:¬ (60:Int) < b2.length:=by omega
  have lp:=is_pure l
  have ln:=is_length l
  simp only [w0] at R K
  have O:=fun fs cs => of_err (ss:=[]) (c:=0) (k:=false) (n:=m) (fb:=f2) (b:=b2) (cb:=c2) (fs:=fs) (cs:=cs) 9 (by omega) (cont_tag 3 (by simp [tagd,h3]))
  have Q:=fun fs cs => oct_err (ss:=[]) (c:=0) (k:=false) (n:=m) (fb:=f2) (b:=b2) (cb:=c2) (fs:=fs) (cs:=cs) 9 (by omega) (cont_tag 4 (by simp [tagd,h4]))
  have s9:=sm 9
  refine .of (g:=[]) (by simp [AV.pureL,AV.pure,bs_pure]) ?_
  rw [aCall_fn rfl (E_fn12) (by simp [AV.pureL,AV.pure,bs_pure]) (Nat.le_of_ble_eq_true rfl) rfl rfl,body_12,c12]
  simp [-s_round,bs_pure,bs_length,q1,q2,lv,R,K,Gr,By0,lp,ln,fitZ,O,Q,s9,h3,h4,show (m == 3)=false by simp [h3],show (m == 4)=false by simp [h4]]
theorem e2n (hb:isB b) (hb2:isB b2) (l1:b.length ≤ 60) (l2:b2.length ≤ 60) (h3:m ≠ 3) (h4:m ≠ 4) (w0:ck b n ≠ 0):Con E 1200 12 [.sl fb (bs b) cb,.int .i64 n,el 0 false m f2 b2 c2 fs [] cs] (.bool true):=by
  have lv:=T24.lives
  have R:=fun f c => rchk f c b n hb l1
  have K:=fun f c => T34.chk f c b n hb (by omega)
  obtain ⟨f1,l,c1,v,g1,xs,f3,c3,Gr,Gg,By,xb,ll⟩:=gets f2 c2 b2 hb2 l2
  have By0:=T6.bytes_nil true (some 0)
  have q1:¬ (60:Int) < b.length:=by omega
  have q2:¬ (60:Int) < b2.length:=by omega
  have lp:=is_pure l
  have ln:=is_length l
  obtain ⟨w,hw⟩:∃ w,ck b n=w:=⟨_,rfl⟩
  rw [hw] at w0 R K
  have P:=fun f c => put_err f c b n w w0 (K f c)
  have Em:=fun f c => elem_err f c b n w w0 (P f c)
  have Bt:=fun f c => bit_err f c b n w 0 w0 (K f c)
  have sw:=sm w
  have wn:=nz w0
  simp only [zel] at Em
  have O:=fun fs cs => of_err (ss:=[]) (c:=0) (k:=false) (n:=m) (fb:=f2) (b:=b2) (cb:=c2) (fs:=fs) (cs:=cs) 9 (by omega) (cont_tag 3 (by simp [tagd,h3]))
  have Q:=fun fs cs => oct_err (ss:=[]) (c:=0) (k:=false) (n:=m) (fb:=f2) (b:=b2) (cb:=c2) (fs:=fs) (cs:=cs) 9 (by omega) (cont_tag 4 (by simp [tagd,h4]))
  have s9:=sm 9
  refine .of (g:=[]) (by simp [AV.pureL,AV.pure,bs_pure]) ?_
  rw [aCall_fn rfl (E_fn12) (by simp [AV.pureL,AV.pure,bs_pure]) (Nat.le_of_ble_eq_true rfl) rfl rfl,body_12,c12]
  simp [-s_round,bs_pure,bs_length,q1,q2,lv,R,K,Gr,By0,lp,ln,fitZ,O,Q,s9,h3,h4,show (m == 3)=false by simp [h3],show (m == 4)=false by simp [h4],P,Em,Bt,sw,w0,wn]
theorem law (hb:isB b) (hb2:isB b2):Con E 1200 12 [.sl fb (bs b) cb,.int .i64 n,el c k m f2 b2 c2 fs ss cs] (.bool true):=by
  by_cases l:60 < b.length ∨ 60 < b2.length
  · exact long l
  have l1:b.length ≤ 60:=by omega
  have l2:b2.length ≤ 60:=by omega
  by_cases hc:c=0
  case neg =>
    by_cases hs:ss=[]
    · subst hs; by_cases w:ck b n=0
      · exact c2z hb hb2 l1 l2 hc w
      · exact c2n hb hb2 l1 l2 hc w
    · by_cases w:ck b n=0
      · exact c1z hb hb2 l1 l2 hs hc w
      · exact c1n hb hb2 l1 l2 hs hc w
  subst hc
  cases k with
  | true =>
    by_cases hs:ss=[]
    · subst hs; by_cases w:ck b n=0
      · exact d2z hb hb2 l1 l2 w
      · exact d2n hb hb2 l1 l2 w
    · by_cases w:ck b n=0
      · exact d1z hb hb2 l1 l2 hs w
      · exact d1n hb hb2 l1 l2 hs w
  | false =>
    by_cases h3:m=3
    · subst h3
      by_cases hs:ss=[]
      · subst hs; by_cases w:ck b n=0
        · exact a2z hb hb2 l1 l2 w
        · exact a2n hb hb2 l1 l2 w
      · by_cases w:ck b n=0
        · exact a1z hb hb2 l1 l2 hs w
        · exact a1n hb hb2 l1 l2 hs w
    by_cases h4:m=4
    · subst h4
      by_cases hs:ss=[]
      · subst hs; by_cases w:ck b n=0
        · exact b2z hb hb2 l1 l2 w
        · exact b2n hb hb2 l1 l2 w
      · by_cases w:ck b n=0
        · exact b1z hb hb2 l1 l2 hs w
        · exact b1n hb hb2 l1 l2 hs w
    by_cases hs:ss=[]
    · subst hs; by_cases w:ck b n=0
      · exact e2z hb hb2 l1 l2 h3 h4 w
      · exact e2n hb hb2 l1 l2 h3 h4 w
    · by_cases w:ck b n=0
      · exact e1z hb hb2 l1 l2 hs h3 h4 w
      · exact e1n hb hb2 l1 l2 hs h3 h4 w
end
end T37
end
section
open Ab Go TabB T1 T2 T3 T4 T5 T6 T7 T9 T10 T11 T12 T13
namespace T39
theorem by_get (l:List Int) (j:Nat) (h:j < (l.length + 7) / 8):(bytesOf l)[j]? = some (val l (8 * j) 8):=by
  unfold bytesOf upto
  rw [List.getElem?_map,List.getElem?_range h]; rfl
theorem by_len (l:List Int):(bytesOf l).length=(l.length + 7) / 8:=upto_length _ _
theorem by_B (l:List Int) (hb:isBit l):isB (bytesOf l):=by
  intro x hx
  unfold bytesOf upto at hx
  obtain ⟨j,_,rfl⟩:=List.mem_map.1 hx
  exact val_256 hb _ 8 (by omega)
theorem b8_val (l:List Int) (hb:isBit l) (p t:Nat) (ht:t < 8):(b8 (val l p 8))[t]? = some (bit l (p + t)):=by
  have b:=fun i => bit_01 hb i
  have b0:=b p
  have b1:=b (p + 1)
  have b2:=b (p + 2)
  have b3:=b (p + 3)
  have b4:=b (p + 4)
  have b5:=b (p + 5)
  have b6:=b (p + 6)
  have b7:=b (p + 7)
  rw [val_eight]
  have ht2:t=0 ∨ t=1 ∨ t=2 ∨ t=3 ∨ t=4 ∨ t=5 ∨ t=6 ∨ t=7:=by omega
  rcases ht2 with rfl | rfl | rfl | rfl | rfl | rfl | rfl | rfl <;> simp only [b8,List.getElem?_cons_succ,List.getElem?_cons_zero,Option.some.injEq,Nat.add_zero] <;> omega
theorem bits_by (l:List Int) (hb:isBit l) (i:Nat) (hi:i < 8 * ((l.length + 7) / 8)):(bits (bytesOf l))[i]? = some (bit l i):=by
  obtain ⟨j,t,ht,rfl⟩:∃ j t,t < 8 ∧ i=8 * j + t:=⟨i / 8,i % 8,by omega,by omega⟩
  rw [bits_get _ j t ht,by_get l j (by omega)]
  exact b8_val l hb (8 * j) t ht
theorem bit_get (l:List Int) (i:Nat) (h:i < l.length):l[i]? = some (bit l i):=by
  unfold bit; rw [List.getElem?_eq_getElem h]; rfl
theorem last0 (l:List Int) (hb:isBit l) (hl:l ≠ []):∃ z,(bytesOf l)[(bytesOf l).length - 1]? = some z ∧ (0 ≤ z ∧ z < 256) ∧ z % 2 ^ (8 * (bytesOf l).length - l.length)=0:=by
  have h0:0 < l.length:=List.length_pos_iff.2 hl
  have bl:=by_len l
  obtain ⟨z,hz⟩:∃ z,(bytesOf l)[(bytesOf l).length - 1]? = some z:=⟨_,List.getElem?_eq_getElem (by omega)⟩
  refine ⟨z,hz,by_B l hb z (List.mem_of_getElem? hz),?_⟩
  refine (T13.tail (bytesOf l) (by_B l hb) (8 * (bytesOf l).length - l.length) l.length z (by omega) (by intro e; rw [e] at bl; simp at bl; omega) (by omega) hz).1 fun i h1 h2 => ?_
  rw [bits_length,by_len] at h2
  rw [bits_by l hb i h2]
  unfold bit
  rw [List.getElem?_eq_none h1]; rfl
def par (b:List Int):List Int:=(b.take 300).map (· % 2)
theorem par_bit (b:List Int):isBit (par b):=by
  intro x hx
  obtain ⟨y,_,rfl⟩:=List.mem_map.1 hx
  omega
theorem par_len (b:List Int):(par b).length=min 300 b.length:=by simp [par]
def b34:Code:=T35.lp c34 0
abbrev S0 (f:Bool) (b:List Int) (c:Option Nat) (i:Int):St:=⟨[(1,.ptr (1,1,0) 0),(3,.sl true [] (some 0)),(4,.int .i64 i)],[((1,1,0),⟨[.sl f (bs b) c],true,true,true,1,false⟩)]⟩
abbrev SR (f:Bool) (b:List Int) (c:Option Nat) (i:Int) (m:Nat) (l:List Int):St:=⟨[(1,.ptr (1,1,0) 0),(3,.ref (1,25,m) 0 l.length none),(4,.int .i64 i)],[((1,1,0),⟨[.sl f (bs b) c],true,true,true,1,false⟩),((1,25,m),⟨is l,true,true,false,1,false⟩)]⟩
theorem go0 (call sc) (k1:Nat) (f c) (b:List Int) (x:Int) (hx:b[0]? = some x) (hb:isB b) :
    aCode E call sc k1 1 fn34 b34 (cleanS 1 ((firstReg b34).bind fn34.head) (S0 f b c 0))=some (.normal,SR f b c 1 0 [x % 2]):=by
  have hi:0 < b.length:=(List.getElem?_eq_some_iff.1 hx).1
  have xb:=hb x (List.mem_of_getElem? hx)
  have ix:=at_ f c b 0 x hx
  have ix:∀ hp,indexAddrA E 22 (.sl f (bs b) c) (.int .i64 0) hp=some (.pel [.int .u8 x]):=ix
  have q2:x.tmod 2=x % 2:=Int.tmod_eq_emod_of_nonneg xb.1
  have w3:=w64 (x % 2) (by omega) (by omega)
  have k0:=bs_keys b
  simp [b34,T35.lp,T35.lps,c34,bs_length,hi,-indexAddrA,ix,q2,w3,is,k0]
theorem goR (call sc) (k1:Nat) (f c) (b:List Int) (i m:Nat) (l:List Int) (x:Int) (hx:b[i]? = some x) (hb:isB b) (h3:i < 300) (ll:l.length ≤ 1000) :
    aCode E call sc k1 1 fn34 b34 (cleanS 1 ((firstReg b34).bind fn34.head) (SR f b c (i:Int) m l))=some (.normal,SR f b c ((i + 1:Nat):Int) (m + 1) (l ++ [x % 2])):=by
  have hi:i < b.length:=(List.getElem?_eq_some_iff.1 hx).1
  have hi2:(i:Int) < (b.length:Int):=by omega
  have h3':(i:Int) < 300:=by omega
  have xb:=hb x (List.mem_of_getElem? hx)
  have ix:=at_ f c b i x hx
  have q2:x.tmod 2=x % 2:=Int.tmod_eq_emod_of_nonneg xb.1
  have w3:=w64 (x % 2) (by omega) (by omega)
  have w:=w64 ((i:Int) + 1) (by omega) (by omega)
  have p:=is_pure l
  have kk:=is_keys l
  have ln:=is_length l
  have sc:=is_scal l
  have ka:=is_keys (l ++ [x % 2])
  have e:is (l ++ [x % 2])=is l ++ [.int .i64 (x % 2)]:=is_app l [x % 2]
  rw [e] at ka
  have bnd:(l.length + 1) * 8 ≤ 70368744177664:=by omega
  simp at sc
  have k0:=bs_keys b
  simp [b34,T35.lp,T35.lps,c34,bs_length,hi,hi2,h3',-indexAddrA,ix,q2,w3,w,p,kk,ln,sc,ka,e,bnd,k0]
end T39
end
end
section
open Ab Go TabB T1 T2 T3 T4 T5 T6 T7 T9 T10 T11 T12 T13 T39
namespace T40
theorem lastR (call sc) (k1:Nat) (f c) (b:List Int) (i m:Nat) (l:List Int) (h:i=b.length ∨ i=300):aCode E call sc k1 1 fn34 b34 (cleanS 1 ((firstReg b34).bind fn34.head) (SR f b c (i:Int) m l))=some (.exit 0,⟨(SR f b c (i:Int) m l).t ++ [(13,.bool false)],(SR f b c (i:Int) m l).h⟩):=by
  have k0:=bs_keys b
  have p:=is_pure l
  have kk:=is_keys l
  have ln:=is_length l
  by_cases q:i < b.length
  · obtain rfl:i=300:=by omega
    have q':(300:Int) < b.length:=by omega
    simp [b34,T35.lp,T35.lps,c34,↓s_seq,↓s_reg,↓s_regd,↓s_cond,↓s_block,↓s_cons,↓s_consG,s_nil,s_loop,s_round,s_lpn,s_lpe,s_lpr,firstReg,s_gt,s_gf,s_wb,s_wu,s_val,s_valN,s_skip,s_calls,s_callP,s_cax,lookR,flatR,pureKs,s_ret,s_rgx,s_sqn,s_sqr,s_sqe,s_cdb,s_bkn,s_bkr,s_bke,s_exit,s_ret',s_skip',s_finr,s_finn,s_fin1,s_fix,s_clean,s_gc0,o_tmp,o_int,o_bool,o_nil,o_str,o_fn,o_nil',l_hit,l_miss,l_nil,ol_nil,ol_cons,ol_some,x_move,x_assign,x_pick,pk_t,pk_f,x_bin,bn_s,x_un,x_extract,x_callF,cl_no,x_callB,x_callBF,frzV,x_conv,cvx,convA,frame0,binA,intOp,resL,resA,results1,sealA,sealLW,AV.pure,AV.pureL,keepT,x_alloc,x_box,bxx,x_build,bdx,x_buildSlice,bsx,x_buildSliceF,bsf,x_load,ldx,x_store,stx,x_slice,slx,x_fieldAddr,x_field,x_index,ixx,x_indexAddr,iax,x_makeSlice,msx,x_nilCheck,newK,genOf,setK,lookK,fillA,writeL,writeC,readC,conts,TyI.mk1,sliceA,boundsA,boundsB,fitsA,numA,indexAddrA,fieldAddrA,partA,fieldA,indexA,appendA,copyA,builtinA,AV.cells,AV.scal,chunk,gcH,reach,keysT,keepK,inKs,AV.keys,AV.keysL,Ty.isAgg,eq1,eqL,convA.go,ltI,w_u8,w_u32,w_u64,w_i64,w_fdiv,w_tdiv,w_tmod,IntKind.bits,unA,bs_length,q,q',k0,p,kk,ln]
  · have q':¬ (i:Int) < b.length:=by omega
    simp [b34,T35.lp,T35.lps,c34,↓s_seq,↓s_reg,↓s_regd,↓s_cond,↓s_block,↓s_cons,↓s_consG,s_nil,s_loop,s_round,s_lpn,s_lpe,s_lpr,firstReg,s_gt,s_gf,s_wb,s_wu,s_val,s_valN,s_skip,s_calls,s_callP,s_cax,lookR,flatR,pureKs,s_ret,s_rgx,s_sqn,s_sqr,s_sqe,s_cdb,s_bkn,s_bkr,s_bke,s_exit,s_ret',s_skip',s_finr,s_finn,s_fin1,s_fix,s_clean,s_gc0,o_tmp,o_int,o_bool,o_nil,o_str,o_fn,o_nil',l_hit,l_miss,l_nil,ol_nil,ol_cons,ol_some,x_move,x_assign,x_pick,pk_t,pk_f,x_bin,bn_s,x_un,x_extract,x_callF,cl_no,x_callB,x_callBF,frzV,x_conv,cvx,convA,frame0,binA,intOp,resL,resA,results1,sealA,sealLW,AV.pure,AV.pureL,keepT,x_alloc,x_box,bxx,x_build,bdx,x_buildSlice,bsx,x_buildSliceF,bsf,x_load,ldx,x_store,stx,x_slice,slx,x_fieldAddr,x_field,x_index,ixx,x_indexAddr,iax,x_makeSlice,msx,x_nilCheck,newK,genOf,setK,lookK,fillA,writeL,writeC,readC,conts,TyI.mk1,sliceA,boundsA,boundsB,fitsA,numA,indexAddrA,fieldAddrA,partA,fieldA,indexA,appendA,copyA,builtinA,AV.cells,AV.scal,chunk,gcH,reach,keysT,keepK,inKs,AV.keys,AV.keysL,Ty.isAgg,eq1,eqL,convA.go,ltI,w_u8,w_u32,w_u64,w_i64,w_fdiv,w_tdiv,w_tmod,IntKind.bits,unA,bs_length,q,q',k0,p,kk,ln]
theorem par_take (b:List Int) (i:Nat) (x:Int) (hx:b[i]? = some x):(b.take (i + 1)).map (· % 2)=(b.take i).map (· % 2) ++ [x % 2]:=by
  rw [List.take_add_one,hx]; simp
theorem of (f c) (b:List Int) (hb:isB b):Con E 400 34 [.agg [.sl f (bs b) c]] (.sl (par b).isEmpty (is (par b)) (if (par b).isEmpty then some 0 else none)):=by
  by_cases h0:b=[]
  · subst h0
    refine .of (g:=[]) (by simp [AV.pureL,AV.pure,bs_pure]) ?_
    rw [aCall_fn rfl (E_fn34) (by simp [AV.pureL,AV.pure,bs_pure]) (Nat.le_of_ble_eq_true rfl) rfl rfl,body_34,c34]
    simp [↓s_seq,↓s_reg,↓s_regd,↓s_cond,↓s_block,↓s_cons,↓s_consG,s_nil,s_loop,s_round,s_lpn,s_lpe,s_lpr,firstReg,s_gt,s_gf,s_wb,s_wu,s_val,s_valN,s_skip,s_calls,s_callP,s_cax,lookR,flatR,pureKs,s_ret,s_rgx,s_sqn,s_sqr,s_sqe,s_cdb,s_bkn,s_bkr,s_bke,s_exit,s_ret',s_skip',s_finr,s_finn,s_fin1,s_fix,s_clean,s_gc0,o_tmp,o_int,o_bool,o_nil,o_str,o_fn,o_nil',l_hit,l_miss,l_nil,ol_nil,ol_cons,ol_some,x_move,x_assign,x_pick,pk_t,pk_f,x_bin,bn_s,x_un,x_extract,x_callF,cl_no,x_callB,x_callBF,frzV,x_conv,cvx,convA,frame0,binA,intOp,resL,resA,results1,sealA,sealLW,AV.pure,AV.pureL,keepT,x_alloc,x_box,bxx,x_build,bdx,x_buildSlice,bsx,x_buildSliceF,bsf,x_load,ldx,x_store,stx,x_slice,slx,x_fieldAddr,x_field,x_index,ixx,x_indexAddr,iax,x_makeSlice,msx,x_nilCheck,newK,genOf,setK,lookK,fillA,writeL,writeC,readC,conts,TyI.mk1,sliceA,boundsA,boundsB,fitsA,numA,indexAddrA,fieldAddrA,partA,fieldA,indexA,appendA,copyA,builtinA,AV.cells,AV.scal,chunk,gcH,reach,keysT,keepK,inKs,AV.keys,AV.keysL,Ty.isAgg,eq1,eqL,convA.go,ltI,w_u8,w_u32,w_u64,w_i64,w_fdiv,w_tdiv,w_tmod,IntKind.bits,unA,bs_nil,par,is]
  · have hl:0 < b.length:=List.length_pos_iff.2 h0
    obtain ⟨x,hx⟩:∃ x,b[0]? = some x:=⟨b[0],List.getElem?_eq_getElem hl⟩
    have g0:=go0 (aCall E 399) (dcall (aRun E 399)) 399 f c b x hx hb
    obtain ⟨N,hN⟩:∃ N,N + 1=min 300 b.length:=⟨min 300 b.length - 1,by omega⟩
    have pl:=par_len b
    have pe:(b.take (N + 1)).map (· % 2)=par b:=by
      rw [hN]; unfold par
      by_cases q:300 ≤ b.length
      · rw [Nat.min_eq_left q]
      · rw [Nat.min_eq_right (by omega),List.take_length,List.take_of_length_le (by omega)]
    have t1:(b.take 1).map (· % 2)=[x % 2]:=by rw [par_take b 0 x hx]; simp
    have L:aLoop (aCode E (aCall E 399) (dcall (aRun E 399)) 399 1 fn34 b34) (cleanS 1 ((firstReg b34).bind fn34.head)) 399 (S0 f b c 0)=some (.exit 0,⟨(SR f b c ((N + 1:Nat):Int) N (par b)).t ++ [(13,.bool false)],(SR f b c ((N + 1:Nat):Int) N (par b)).h⟩):=by
      rw [show (399:Nat)=398 + 1 from rfl,aLoop_succ g0]
      refine loopR (fun j => SR f b c ((j + 1:Nat):Int) j ((b.take (j + 1)).map (· % 2))) N (by rw [t1]; rfl) (fun j hj => ?_) ?_ (by simp) (by omega)
      · obtain ⟨y,hy⟩:∃ y,b[j + 1]? = some y:=⟨b[j + 1]'(by omega),List.getElem?_eq_getElem _⟩
        have:=goR (aCall E 399) (dcall (aRun E 399)) 399 f c b (j + 1) j ((b.take (j + 1)).map (· % 2)) y hy hb (by omega) (by simp; omega)
        rw [← par_take b (j + 1) y hy] at this
        exact this
      · have:=lastR (aCall E 399) (dcall (aRun E 399)) 399 f c b (N + 1) N ((b.take (N + 1)).map (· % 2)) (by omega)
        rw [pe] at this
        simp only [pe]
        exact this
    have pn:par b ≠ []:=by intro e; rw [e] at pl; simp at pl; omega
    have pz:(par b).isEmpty=false:=by simp [pn]
    rw [pz]
    have p:=is_pure (par b)
    have kk:=is_keys (par b)
    have ln:=is_length (par b)
    have k0:=bs_keys b
    refine .of (g:=[]) (by simp [AV.pureL,AV.pure,bs_pure]) ?_
    rw [aCall_fn rfl (E_fn34) (by simp [AV.pureL,AV.pure,bs_pure]) (Nat.le_of_ble_eq_true rfl) rfl rfl,body_34,c34]
    simp [b34,T35.lp,T35.lps,c34,firstReg] at L
    have sl:∀ h,lookK h (1,25,N)=some ⟨is (par b),true,true,false,1,false⟩ → sealA 20 h (.ref (1,25,N) 0 (par b).length none)=some (.sl false (is (par b)) none,setK h (1,25,N) ⟨is (par b),true,false,false,1,false⟩):=fun h hk => seal_row (n:=18) hk ln.symm p
    simp [↓s_seq,↓s_reg,↓s_regd,↓s_cond,↓s_block,↓s_cons,↓s_consG,s_nil,s_loop,s_round,s_lpn,s_lpe,s_lpr,firstReg,s_gt,s_gf,s_wb,s_wu,s_val,s_valN,s_skip,s_calls,s_callP,s_cax,lookR,flatR,pureKs,s_ret,s_rgx,s_sqn,s_sqr,s_sqe,s_cdb,s_bkn,s_bkr,s_bke,s_exit,s_ret',s_skip',s_finr,s_finn,s_fin1,s_fix,s_clean,s_gc0,o_tmp,o_int,o_bool,o_nil,o_str,o_fn,o_nil',l_hit,l_miss,l_nil,ol_nil,ol_cons,ol_some,x_move,x_assign,x_pick,pk_t,pk_f,x_bin,bn_s,x_un,x_extract,x_callF,cl_no,x_callB,x_callBF,frzV,x_conv,cvx,convA,frame0,binA,intOp,resL,resA,results1,sealA,sealLW,AV.pure,AV.pureL,keepT,x_alloc,x_box,bxx,x_build,bdx,x_buildSlice,bsx,x_buildSliceF,bsf,x_load,ldx,x_store,stx,x_slice,slx,x_fieldAddr,x_field,x_index,ixx,x_indexAddr,iax,x_makeSlice,msx,x_nilCheck,newK,genOf,setK,lookK,fillA,writeL,writeC,readC,conts,TyI.mk1,sliceA,boundsA,boundsB,fitsA,numA,indexAddrA,fieldAddrA,partA,fieldA,indexA,appendA,copyA,builtinA,AV.cells,AV.scal,chunk,gcH,reach,keysT,keepK,inKs,AV.keys,AV.keysL,Ty.isAgg,eq1,eqL,convA.go,ltI,w_u8,w_u32,w_u64,w_i64,w_fdiv,w_tdiv,w_tmod,IntKind.bits,unA,bs_pure,L,-s_round,p,kk,ln,k0,sl,-sealA,-sealLW]
end T40
end
section
open Ab Go TabB T1 T2 T3 T4 T5 T6 T7 T9 T10 T11 T12 T13 T34 T36 T39
namespace T41
theorem rput0 (f c):Con E 420 35 [.sl f [] c] (.sl false [.int .u8 0] (some 1)):=by
  have B:=T6.bytes_nil f c
  refine .of (g:=[]) (by simp [AV.pureL,AV.pure]) ?_
  rw [aCall_fn rfl (E_fn35) (by simp [AV.pureL,AV.pure]) (Nat.le_of_ble_eq_true rfl) rfl rfl,body_35,c35]
  simp [↓s_seq,↓s_reg,↓s_cons,s_nil,s_val,s_calls,s_cax,s_ret,s_rgx,s_sqn,s_ret',s_finr,s_fin1,s_fix,s_clean,o_tmp,o_int,o_nil,l_hit,l_miss,ol_nil,ol_cons,ol_some,x_move,x_assign,x_bin,bn_s,x_callF,cl_no,x_callB,x_conv,cvx,convA,frame0,binA,intOp,resL,resA,results1,sealA,sealLW,AV.pure,AV.pureL,keepT,x_buildSlice,bsx,newK,genOf,setK,lookK,fillA,writeL,writeC,conts,appendA,copyA,builtinA,AV.cells,AV.scal,chunk,gcH,reach,keysT,keepK,inKs,AV.keys,AV.keysL,Ty.isAgg,w_u8,w_i64,B]
theorem rput (f c) (l:List Int) (hb:isBit l) (hl:l ≠ []) (h3:l.length ≤ 300):Con E 420 35 [.sl f (is l) c] (.sl false (bs ((8 * ((bytesOf l).length:Int) - l.length) :: bytesOf l)) none):=by
  have h0:0 < l.length:=List.length_pos_iff.2 hl
  have bl:=by_len l
  have B:=T6.bytes_con f c l hb (by omega) h0 419 (by omega)
  have p:=is_pure l
  have ln:=is_length l
  have w1:=w64 (8 * ((bytesOf l).length:Int)) (by omega) (by omega)
  have w2:=w64 (8 * ((bytesOf l).length:Int) - l.length) (by omega) (by omega)
  have w3:(8 * ((bytesOf l).length:Int) - l.length) % 256=8 * ((bytesOf l).length:Int) - l.length:=Int.emod_eq_of_lt (by omega) (by omega)
  generalize bytesOf l=ys at *
  have k2:=bs_pure ys
  have k3:=bs_length ys
  have ksc:=bs_scal ys
  simp at ksc
  have yl:ys.length ≠ 0:=by omega
  have bnd:(1 + ys.length) * 1 ≤ 70368744177664:=by omega
  have bnd2:1 + ys.length ≤ 70368744177664:=by omega
  have nb:¬ 1 + ys.length ≤ 1:=by omega
  refine .of (g:=[]) (by simp [AV.pureL,AV.pure]) ?_
  rw [aCall_fn rfl (E_fn35) (by simp [AV.pureL,AV.pure]) (Nat.le_of_ble_eq_true rfl) rfl rfl,body_35,c35]
  have kk:=bs_keys ys
  have ce:[AV.int .u8 (8 * (ys.length:Int) - l.length)] ++ bs ys=bs ((8 * (ys.length:Int) - l.length) :: ys):=rfl
  have sl:∀ (h:Heap) key,lookK h key=some ⟨bs ((8 * (ys.length:Int) - l.length) :: ys),true,true,false,1,false⟩ → sealA 20 h (.ref key 0 (1 + ys.length) none)=some (.sl false (bs ((8 * (ys.length:Int) - l.length) :: ys)) none,setK h key ⟨bs ((8 * (ys.length:Int) - l.length) :: ys),true,false,false,1,false⟩):=fun h key hk => seal_row (n:=18) hk (by simp [bs_length]; omega) (bs_pure _)
  have sl2:∀ (h:Heap) key,lookK h key=some ⟨.int .u8 (8 * (ys.length:Int) - l.length) :: bs ys,true,true,false,1,false⟩ → sealA 20 h (.ref key 0 (1 + ys.length) none)=some (.sl false (.int .u8 (8 * (ys.length:Int) - l.length) :: bs ys) none,setK h key ⟨.int .u8 (8 * (ys.length:Int) - l.length) :: bs ys,true,false,false,1,false⟩):=sl
  simp [↓s_seq,↓s_reg,↓s_cons,s_nil,s_val,s_calls,s_cax,s_ret,s_rgx,s_sqn,s_ret',s_finr,s_fin1,s_fix,s_clean,o_tmp,o_int,o_nil,l_hit,l_miss,ol_nil,ol_cons,ol_some,x_move,x_assign,x_bin,bn_s,x_callF,cl_no,x_callB,x_conv,cvx,convA,frame0,binA,intOp,resL,resA,results1,sealA,sealLW,AV.pure,AV.pureL,keepT,x_buildSlice,bsx,newK,genOf,setK,lookK,fillA,writeL,writeC,conts,appendA,copyA,builtinA,AV.cells,gcH,reach,keysT,keepK,inKs,AV.keys,AV.keysL,Ty.isAgg,w_u8,ln,B,w1,w2,w3,k3,bnd2,nb,kk,sl2,-sealA,-sealLW,bs_cons,bs_cells,sc_int,sc_mem,fun n:Nat => show ¬ (1 + n ≤ 0) by omega]
theorem bit_out (f c) (b:List Int) (n i:Int) (K:Con E 50 36 [.sl f (bs b) c,.int .i64 n] (.int .i64 0)) (h:i < 0 ∨ n ≤ i):Con E 60 40 [.sl f (bs b) c,.int .i64 n,.int .i64 i] (.bool false):=by
  refine .of (g:=[]) (by simp [AV.pureL,AV.pure]) ?_
  rw [aCall_fn rfl (E_fn40) (by simp [AV.pureL,AV.pure]) (Nat.le_of_ble_eq_true rfl) rfl rfl,body_40,c40]
  by_cases q:i < 0
  · simp [↓s_seq,↓s_reg,↓s_cond,↓s_cons,↓s_consG,s_nil,s_gt,s_gf,s_wb,s_val,s_calls,s_cax,s_ret,s_rgx,s_sqn,s_sqr,s_cdb,s_ret',s_finr,s_fin1,s_fix,s_clean,o_tmp,o_int,o_bool,l_hit,l_miss,ol_nil,ol_cons,ol_some,x_move,x_assign,x_pick,pk_t,pk_f,x_bin,bn_s,x_callF,cl_no,frame0,binA,intOp,resL,resA,results1,sealA,sealLW,AV.pure,AV.pureL,keepT,gcH,K,q]
  · have h2:n ≤ i:=by omega
    simp [↓s_seq,↓s_reg,↓s_cond,↓s_cons,↓s_consG,s_nil,s_gt,s_wb,s_val,s_calls,s_cax,s_ret,s_rgx,s_sqn,s_sqr,s_cdb,s_ret',s_finr,s_fin1,s_fix,s_clean,o_tmp,o_int,o_bool,l_hit,l_miss,ol_nil,ol_cons,ol_some,x_move,x_assign,x_pick,pk_f,x_bin,bn_s,x_callF,cl_no,frame0,binA,intOp,resL,resA,results1,sealA,sealLW,AV.pure,AV.pureL,keepT,gcH,K,q,h2]
def b11:Code:=T35.lp c11 0
abbrev S (i:Int) (f:Bool) (l:List Int) (c:Option Nat) (g:Bool) (ys:List Int) (d:Option Nat) (m:Nat):St:=⟨[(1,.int .i64 i),(5,.sl f (is l) c),(6,.sl g (bs ys) d),(7,.int .i64 (l.length:Int)),(16,.int .i64 (m:Int))],[]⟩
theorem go (q k1:Nat) (i f l c g ys d) (m:Nat) (v:Int) (hv:l[m]? = some v) (hl:l.length ≤ 1000) (B:∀ h,aCall E q 0 40 [.sl g (bs ys) d,.int .i64 (l.length:Int),.int .i64 (m:Int)] h=some (.ret (.bool (v == 1)),h)) :
    aCode E (aCall E q) (dcall (aRun E q)) k1 1 fn11 b11 (cleanS 1 ((firstReg b11).bind fn11.head) (S i f l c g ys d m))=some (.normal,S i f l c g ys d (m + 1)):=by
  have hi:m < l.length:=(List.getElem?_eq_some_iff.1 hv).1
  have hi2:(m:Int) < (l.length:Int):=by omega
  have ix:=atI f c l m v hv
  have w:=w64 ((m:Int) + 1) (by omega) (by omega)
  have p:=is_pure l
  have kk:=is_keys l
  have k0:=bs_keys ys
  have p0:=bs_pure ys
  simp [b11,T35.lp,T35.lps,c11,↓s_seq,↓s_reg,↓s_regd,↓s_cond,↓s_block,↓s_cons,s_nil,firstReg,s_val,s_callP,s_ret,s_rgx,s_sqn,s_cdb,s_bkn,s_skip',s_clean,o_tmp,o_int,l_hit,l_miss,ol_nil,ol_cons,ol_some,x_move,x_assign,x_bin,bn_s,x_callF,cl_no,binA,intOp,AV.pure,AV.pureL,keepT,x_load,ldx,x_indexAddr,iax,readC,TyI.mk1,gcH,Ty.isAgg,hi2,ix,w,B]
theorem fin (q k1:Nat) (i f l c g ys d):aCode E (aCall E q) (dcall (aRun E q)) k1 1 fn11 b11 (cleanS 1 ((firstReg b11).bind fn11.head) (S i f l c g ys d l.length))=some (.exit 0,⟨(S i f l c g ys d l.length).t ++ [(80,.bool false)],[]⟩):=by
  have kk:=is_keys l
  have k0:=bs_keys ys
  simp [b11,T35.lp,T35.lps,c11,↓s_seq,↓s_reg,↓s_cond,↓s_cons,s_nil,firstReg,s_val,s_rgx,s_sqn,s_sqe,s_cdb,s_exit,s_clean,o_tmp,l_hit,l_miss,x_move,x_bin,bn_s,binA,intOp,keepT,gcH]
end T41
end
section
open Ab Go TabB T1 T2 T3 T4 T5 T6 T7 T9 T10 T11 T12 T13 T34 T36 T39 T41
namespace T42
theorem none_ (f c) (i:Int):Con E 1200 11 [.agg [.sl f (bs []) c],.int .i64 i] (.bool true):=by
  have OF:∀ f c,Con E 400 34 [.agg [.sl f [] c]] (.sl true [] (some 0)):=fun f c => T40.of f c [] isB_nil
  have BY:∀ f c,Con E 20 24 [.sl f [] c] (.sl true [] (some 0)):=fun f c => T6.bytes_nil f c
  have RP:=fun f c => rput0 f c
  have PT:=fun f c => put_nil f c
  simp only [bs_cons,bs_nil] at PT
  have CK:=fun f c => T34.nil0 f c
  have SM1:∀ g d,Con E 20 26 [.sl false [.int .u8 0] (some 1),.int .i64 0,.sl g [.int .u8 0] d,.int .i64 0] (.bool true):=fun g d => same false g d [0] 0 (by intro x hx; simp at hx; omega)
  have G:∀ f c,Con E 100 31 [.sl f (bs [0]) c] (.tup [.sl false [] (some 0),.int .i64 0,.int .i64 0]):=fun f c => T9.get_zero f c
  have RD:∀ f c f2 d,Con E 120 23 [.sl f [.int .u8 0] c,.sl f2 [] d,.int .i64 0,.int .i64 0] (.bool true):=fun f c f2 d => T10.read f c false f2 d [0] [] 0 0 isB_nil (G f c)
  have EL:=fun f c => elem_ok f c [] [0] 0 1 (put_nil f c)
  simp only [bs_cons,bs_nil,el] at EL
  have OE:=fun fs cs => of_get (c:=0) (k:=false) (n:=3) (fb:=false) (b:=[0]) (cb:=some 1) (fs:=fs) (cs:=cs) ⟨rfl,rfl,rfl⟩ false [] (some 0) 0 0 (G false (some 1))
  simp only [bs_cons,bs_nil,el] at OE
  have IS:∀ fs cs g d,Con E 40 39 [.agg [.int .u8 0,.bool false,.int .u32 3,.sl false [.int .u8 0] (some 1),.sl fs [] cs],.int .i64 0,.int .u32 3,.sl g [.int .u8 0] d] (.bool true):=fun fs cs g d => is_ 3 false [0] fs cs g d (by intro x hx; simp at hx; omega)
  have SM2:∀ g d,Con E 20 26 [.sl false [] (some 0),.int .i64 0,.sl g [] d,.int .i64 0] (.bool true):=fun g d => same false g d [] 0 isB_nil
  have BT:∀ f c,Con E 60 40 [.sl f [] c,.int .i64 0,.int .i64 i] (.bool false):=fun f c => bit_out f c [] 0 i (T34.nil0 f c) (by omega)
  have lv:=T24.lives
  refine .of (g:=[]) (by simp [AV.pureL,AV.pure]) ?_
  rw [aCall_fn rfl (E_fn11) (by simp [AV.pureL,AV.pure]) (Nat.le_of_ble_eq_true rfl) rfl rfl,body_11,c11]
  by_cases q:0 ≤ i
  · have q':¬ i < 0:=by omega
    simp [↓s_seq,↓s_reg,↓s_cond,↓s_block,↓s_cons,↓s_consG,s_nil,s_loop,s_round,s_lpe,firstReg,s_gt,s_wb,s_val,s_skip,s_calls,s_cax,s_ret,s_rgx,s_sqn,s_sqe,s_cdb,s_bke,s_exit,s_ret',s_skip',s_finr,s_fin1,s_fix,s_clean,o_tmp,o_int,o_bool,l_hit,l_miss,ol_nil,ol_cons,ol_some,x_move,x_assign,x_pick,pk_t,pk_f,x_bin,bn_s,x_un,x_extract,x_callF,cl_no,x_callB,frame0,binA,intOp,resL,resA,results1,sealA,sealLW,AV.pure,AV.pureL,keepT,x_alloc,x_box,bxx,x_load,ldx,x_store,stx,newK,genOf,setK,lookK,writeL,writeC,readC,conts,TyI.mk1,appendA,copyA,builtinA,AV.cells,AV.scal,gcH,reach,keysT,keepK,inKs,AV.keys,AV.keysL,Ty.isAgg,unA,bs_nil,OF,BY,RP,PT,CK,SM1,RD,EL,OE,IS,SM2,BT,lv,q,q']
  · simp [↓s_seq,↓s_reg,↓s_cond,↓s_block,↓s_cons,↓s_consG,s_nil,s_loop,s_round,s_lpe,firstReg,s_gt,s_gf,s_wb,s_val,s_skip,s_calls,s_cax,s_ret,s_rgx,s_sqn,s_sqe,s_cdb,s_bke,s_exit,s_ret',s_skip',s_finr,s_fin1,s_fix,s_clean,o_tmp,o_int,o_bool,l_hit,l_miss,ol_nil,ol_cons,ol_some,x_move,x_assign,x_pick,pk_t,pk_f,x_bin,bn_s,x_un,x_extract,x_callF,cl_no,x_callB,frame0,binA,intOp,resL,resA,results1,sealA,sealLW,AV.pure,AV.pureL,keepT,x_alloc,x_box,bxx,x_load,ldx,x_store,stx,newK,genOf,setK,lookK,writeL,writeC,readC,conts,TyI.mk1,appendA,copyA,builtinA,AV.cells,AV.scal,gcH,reach,keysT,keepK,inKs,AV.keys,AV.keysL,Ty.isAgg,unA,bs_nil,OF,BY,RP,PT,CK,SM1,RD,EL,OE,IS,SM2,BT,lv,q]
theorem some_ (f c) (b:List Int) (hb:isB b) (h0:b ≠ []) (i:Int):Con E 1200 11 [.agg [.sl f (bs b) c],.int .i64 i] (.bool true):=by
  have OF:=fun f c => T40.of f c b hb
  have lB:=par_bit b
  have ll:=par_len b
  have hbl:0 < b.length:=List.length_pos_iff.2 h0
  have pn:par b ≠ []:=by intro e; rw [e] at ll; simp at ll; omega
  have pz:(par b).isEmpty=false:=by simp [pn]
  rw [pz] at OF
  generalize par b=l at *
  have l0:0 < l.length:=List.length_pos_iff.2 pn
  have BY:=fun f c => T6.bytes_con f c l lB (by omega) l0 420 (by omega)
  have RP:=fun f c => rput f c l lB pn (by omega)
  obtain ⟨z,hz,hzb,hm⟩:=T39.last0 l lB pn
  have yl:=by_len l
  have yB:=by_B l lB
  have VB:∀ (j t:Nat),t < 8 → 8 * j + t < l.length → ∃ y,(bytesOf l)[j]? = some y ∧ (b8 y)[t]? = l[8 * j + t]?:=fun j t ht h => ⟨_,by_get l j (by omega),by rw [b8_val l lB _ t ht,bit_get l _ h]⟩
  generalize bytesOf l=ys at *
  have ya:ys ≠ []:=by intro e; rw [e] at yl; simp at yl; omega
  obtain ⟨x,hx⟩:∃ x:Int,8 * (ys.length:Int) - l.length=x:=⟨_,rfl⟩
  rw [hx] at RP
  have xe:x.toNat=8 * ys.length - l.length:=by omega
  rw [← xe] at hm
  have PT:=fun f c => put_ok f c x z (l.length:Int) ys (by omega) (by omega) ya (by omega) hz hzb hm (by omega)
  have CK:=fun f c => chk_ok f c x z (l.length:Int) ys (by omega) (by omega) ya (by omega) hz hzb hm (by omega)
  have G:=fun f c => T9.get_ok f c x z ys (by omega) (by omega) ya (by omega) hz hzb hm
  rw [show 8 * (ys.length:Int) - x=(l.length:Int) from by omega] at G
  have EL:=fun f c => elem_ok f c ys (x :: ys) (l.length:Int) (ys.length + 1) (PT f c)
  have OE:=fun fs cs => of_get (c:=0) (k:=false) (n:=3) (fb:=false) (b:=x :: ys) (cb:=some (ys.length + 1)) (fs:=fs) (cs:=cs) ⟨rfl,rfl,rfl⟩ false ys (some ys.length) (l.length:Int) 0 (G false (some (ys.length + 1)))
  have wB:isB (x :: ys):=isB_cons.2 ⟨⟨by omega,by omega⟩,yB⟩
  have RD:=fun f c f2 d => T10.read f c false f2 d (x :: ys) ys (l.length:Int) 0 yB (G f c)
  have SM1:=fun g d => same false g d (x :: ys) 0 wB
  have IS:=fun fs cs g d => is_ 3 false (x :: ys) fs cs g d wB
  have wl:(x :: ys).length=ys.length + 1:=rfl
  rw [wl] at SM1 IS
  generalize x :: ys=ws at *
  have SM2:=fun g d => same false g d ys 0 yB
  have BT:∀ (m:Nat) (v:Int),l[m]? = some v → ∀ f c,Con E 60 40 [.sl f (bs ys) c,.int .i64 (l.length:Int),.int .i64 (m:Int)] (.bool (v == 1)):=by
    intro m v h f c
    have hi:m < l.length:=(List.getElem?_eq_some_iff.1 h).1
    obtain ⟨j,t,ht,rfl⟩:∃ j t,t < 8 ∧ m=8 * j + t:=⟨m / 8,m % 8,by omega,by omega⟩
    obtain ⟨y,e1,e2⟩:=VB j t ht hi
    rw [h] at e2
    exact T16.bit_ f c (l.length:Int) v ys j t y yB (by omega) e1 ht (by omega) (CK f c) e2
  have lv:=T24.lives
  have L:aLoop (aCode E (aCall E 1199) (dcall (aRun E 1199)) 1199 1 fn11 b11) (cleanS 1 ((firstReg b11).bind fn11.head)) 1199 (S i false l none false ys none 0)=some (.exit 0,⟨(S i false l none false ys none l.length).t ++ [(80,.bool false)],[]⟩) :=
    loopR (fun m => S i false l none false ys none m) l.length rfl (fun m hm => by
      obtain ⟨v,hv⟩:∃ v,l[m]? = some v:=⟨l[m],List.getElem?_eq_getElem hm⟩
      exact go 1199 1199 i false l none false ys none m v hv (by omega) (BT m v hv false none 1199 (by omega) 0)) (fin 1199 1199 i false l none false ys none) (by simp) (by omega)
  simp [b11,T35.lp,T35.lps,c11,firstReg,T41.S] at L
  have p:=is_pure l
  have ln:=is_length l
  have py:=bs_pure ys
  have pw:=bs_pure ws
  refine .of (g:=[]) (by simp [AV.pureL,AV.pure]) ?_
  rw [aCall_fn rfl (E_fn11) (by simp [AV.pureL,AV.pure]) (Nat.le_of_ble_eq_true rfl) rfl rfl,body_11,c11]
  by_cases q:0 ≤ i
  · by_cases q2:i < (l.length:Int)
    · simp [↓s_seq,↓s_reg,↓s_cond,↓s_block,↓s_cons,↓s_consG,s_nil,s_loop,firstReg,s_gt,s_gf,s_wb,s_val,s_skip,s_calls,s_cax,s_ret,s_rgx,s_sqn,s_cdb,s_bke,s_ret',s_skip',s_finr,s_fin1,s_fix,s_clean,o_tmp,o_int,o_bool,l_hit,l_miss,ol_nil,ol_cons,ol_some,x_move,x_assign,x_pick,pk_t,pk_f,x_bin,bn_s,x_un,x_extract,x_callF,cl_no,x_callB,frame0,binA,intOp,resL,resA,results1,sealA,sealLW,AV.pure,AV.pureL,keepT,x_alloc,x_box,bxx,x_load,ldx,x_store,stx,newK,genOf,setK,lookK,writeL,writeC,readC,conts,TyI.mk1,appendA,copyA,builtinA,AV.cells,AV.scal,gcH,reach,keysT,keepK,inKs,AV.keys,AV.keysL,Ty.isAgg,unA,OF,BY,RP,PT,CK,SM1,RD,EL,OE,IS,SM2,L,lv,q,q2,ln]
    · have bo:=fun f c => bit_out f c ys (l.length:Int) i (CK f c) (by omega)
      simp [↓s_seq,↓s_reg,↓s_cond,↓s_block,↓s_cons,↓s_consG,s_nil,s_loop,firstReg,s_gt,s_wb,s_val,s_skip,s_calls,s_cax,s_ret,s_rgx,s_sqn,s_cdb,s_bke,s_ret',s_skip',s_finr,s_fin1,s_fix,s_clean,o_tmp,o_int,o_bool,l_hit,l_miss,ol_nil,ol_cons,ol_some,x_move,x_assign,x_pick,pk_t,pk_f,x_bin,bn_s,x_un,x_extract,x_callF,cl_no,x_callB,frame0,binA,intOp,resL,resA,results1,sealA,sealLW,AV.pure,AV.pureL,keepT,x_alloc,x_box,bxx,x_load,ldx,x_store,stx,newK,genOf,setK,lookK,writeL,writeC,readC,conts,TyI.mk1,appendA,copyA,builtinA,AV.cells,AV.scal,gcH,reach,keysT,keepK,inKs,AV.keys,AV.keysL,Ty.isAgg,unA,OF,BY,RP,PT,CK,SM1,RD,EL,OE,IS,SM2,L,lv,q,q2,bo,ln]
  · have bo:=fun f c => bit_out f c ys (l.length:Int) i (CK f c) (by omega)
    simp [↓s_seq,↓s_reg,↓s_cond,↓s_block,↓s_cons,↓s_consG,s_nil,s_loop,firstReg,s_gt,s_gf,s_wb,s_val,s_skip,s_calls,s_cax,s_ret,s_rgx,s_sqn,s_cdb,s_bke,s_ret',s_skip',s_finr,s_fin1,s_fix,s_clean,o_tmp,o_int,o_bool,l_hit,l_miss,ol_nil,ol_cons,ol_some,x_move,x_assign,x_pick,pk_t,pk_f,x_bin,bn_s,x_un,x_extract,x_callF,cl_no,x_callB,frame0,binA,intOp,resL,resA,results1,sealA,sealLW,AV.pure,AV.pureL,keepT,x_alloc,x_box,bxx,x_load,ldx,x_store,stx,newK,genOf,setK,lookK,writeL,writeC,readC,conts,TyI.mk1,appendA,copyA,builtinA,AV.cells,AV.scal,gcH,reach,keysT,keepK,inKs,AV.keys,AV.keysL,Ty.isAgg,unA,OF,BY,RP,PT,CK,SM1,RD,EL,OE,IS,SM2,L,lv,q,bo,ln]
theorem law (f c) (b:List Int) (hb:isB b) (i:Int):Con E 1200 11 [.agg [.sl f (bs b) c],.int .i64 i] (.bool true):=by
  by_cases h:b=[]
  · subst h; exact none_ f c i
  · exact some_ f c b hb h i
end T42
end
