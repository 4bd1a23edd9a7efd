/- Own work, no conditions. -/
import Derived.Test.YtbiildmljbcmeaaDoorF23
import Derived.Test.YtbiildmljbcmeaaDoorSr
import Derived.Test.YtbiildmljbcmeaaDoorOI
import Derived.Test.YtbiildmljbcmeaaDoorF44
import Derived.Test.YtbiildmljbcmeaaDoorB40e
import Derived.Test.YtbiildmljbcmeaaDoorF2
import Derived.Test.YtbiildmljbcmeaaDoorFW
import Derived.Test.YtbiildmljbcmeaaDoorSq
set_option maxRecDepth 20000
set_option linter.unusedSimpArgs false
set_option linter.unusedVariables false
set_option maxHeartbeats 16000000
section
open Ab Go TabE Sp E34 F1 Rw F5 F6 F7 F8
namespace AP
abbrev tS:Int × Bool × Int:=(0,true,16)
abbrev lA:List Fld:=[⟨0,false,6,false,false⟩,⟨0,false,0,true,true⟩]
theorem mt_eq (x:Fld) (y:El) (h:x.any=false):F7.mt x y=true ↔ x.c=y.c ∧ x.k=y.k ∧ x.n=y.n:=by
  unfold F7.mt; rw [h]; simp
theorem mt_any (x:Fld) (y:El) (h:x.any=true):F7.mt x y=true:=by unfold F7.mt; rw [h]; rfl
theorem casesA (e:El) (o:List Int) (h:sq e tS lA=.inl o):(e.c=0 ∧ e.k=true ∧ e.n=16) ∧ ((∃ x,e.s=[x] ∧ o=[0,-1] ∧ x.c=0 ∧ x.k=false ∧ x.n=6) ∨ ∃ x y,e.s=[x,y] ∧ o=[0,1] ∧ x.c=0 ∧ x.k=false ∧ x.n=6):=by
  obtain ⟨_,_,_,t1,t2,t3⟩:=F11.sq_ok h
  refine ⟨⟨t1,t2,t3⟩,?_⟩
  unfold sq at h
  rw [if_neg (by simp),if_neg (by simp [t1,t2,t3])] at h
  have A:=fun y => mt_eq ⟨0,false,6,false,false⟩ y rfl
  have B:=fun y => mt_any ⟨0,false,0,true,true⟩ y rfl
  rcases hs:e.s with _ | ⟨x,_ | ⟨y,_ | ⟨z,r⟩⟩⟩
  · rw [hs] at h
    simp [sqr] at h
  · rw [hs] at h
    by_cases a:F7.mt ⟨0,false,6,false,false⟩ x=true
    · simp [sqr,a] at h
      have q:=(A x).1 a
      exact .inl ⟨x,rfl,h.symm,q.1.symm,q.2.1.symm,q.2.2.symm⟩
    · simp [sqr,a] at h
  · rw [hs] at h
    by_cases a:F7.mt ⟨0,false,6,false,false⟩ x=true
    · simp [sqr,a,B] at h
      have q:=(A x).1 a
      exact .inr ⟨x,y,rfl,h.symm,q.1.symm,q.2.1.symm,q.2.2.symm⟩
    · simp [sqr,a] at h
  · rw [hs] at h
    by_cases a:F7.mt ⟨0,false,6,false,false⟩ x=true
    · simp [sqr,a,B] at h
    · simp [sqr,a] at h
theorem l16 (xs:List Int) (h:xs.length=16):∃ x0 x1 x2 x3 x4 x5 x6 x7 x8 x9 x10 x11 x12 x13 x14 x15,xs=[x0,x1,x2,x3,x4,x5,x6,x7,x8,x9,x10,x11,x12,x13,x14,x15]:=by
  match xs,h with
  | [x0,x1,x2,x3,x4,x5,x6,x7,x8,x9,x10,x11,x12,x13,x14,x15],_ => exact ⟨_,_,_,_,_,_,_,_,_,_,_,_,_,_,_,_,rfl⟩
abbrev lf (b:List Int):El:=.mk 0 false 6 false b (some b.length) true [] (some 0)
abbrev tp (s:List El) (n:Nat):El:=.mk 0 true 16 true [] (some 0) false s (some n)
theorem lf_core (x:El) (b:List Int) (hv:vld x.core) (h:x.c=0 ∧ x.k=false ∧ x.n=6) (hb:b=x.b):(lf b).core=x.core:=by
  rw [vld_eq] at hv
  have s0:=hv.2.2.1 h.2.1
  rw [El.core_eq,El.core_eq x,h.1,h.2.1,h.2.2,s0,hb]
  rfl
theorem lf_ok (b:List Int) (hb:isB b) (hl:b.length ≤ 9223372036854775807):(lf b).ok:=by
  rw [El.ok_eq]
  exact ⟨by simp [El.c],by simp [El.n],hb,hl,by simp [El.s],fun y hy => by cases hy⟩
theorem tp_ok (s:List El) (n:Nat) (h:∀ x ∈ s,x.ok) (hl:s.length ≤ 2):(tp s n).ok:=by
  rw [El.ok_eq]
  exact ⟨by simp [El.c],by simp [El.n],by simp [El.b,isB],by simp [El.b],by simp only [El.s]; omega,h⟩
theorem core_of (e:El) (hv:vld e.core) (ht:e.c=0 ∧ e.k=true ∧ e.n=16) (s:List El) (n:Nat) (h:El.cores s=El.cores e.s):(tp s n).core=e.core:=by
  rw [vld_eq] at hv
  have b0:=hv.2.1 ht.2.1
  rw [El.core_eq,El.core_eq e,ht.1,ht.2.1,ht.2.2,b0,← h]; rfl
end AP
end
section
open Ab Go TabE Sp E34 F1 F4 F5 F20
namespace F64
inductive Wn where
  | no
  | lit (i:Nat) (w:Int)
  | giv (i:Nat) (w:Int)
def Wn.cells:Wn → List AV
  | .no => zc
  | .lit i w => [.sl false [.int .i64 i] none,.int .i64 w]
  | .giv _ w => [.ref (1,71,0) 0 1 none,.int .i64 w]
def Wn.row:Wn → Heap
  | .giv i _ => [((1,71,0),FO.fr i)]
  | _ => []
def Wn.er:Wn → Int
  | .no => 0
  | .lit _ w => w
  | .giv _ w => w
def mt:Option (Nat × Int) → Wn → Prop
  | none,w => w=.no
  | some (i,v),w => v ≠ 0 ∧ (w=.lit i v ∨ w=.giv i v)
end F64
end
section
open Ab Go TabE
attribute [local simp ↓] s_seq s_reg s_regd s_cond s_block s_cons s_consG s_regD
attribute [local simp] s_nil s_loop s_round s_lpn s_lpe s_lpr firstReg s_gt s_gf s_wb s_wu s_val s_valN s_skip s_calls s_callP s_cax lookR flatR pureKs s_ret s_rgx s_sqn s_sqr s_sqe s_cdb s_bkn s_bkr s_bke s_exit s_ret' s_skip' s_finr s_finn s_fin1 s_fix s_clean s_gc0 o_tmp o_int o_bool o_nil o_str o_fn o_nil' l_hit l_miss l_nil ol_nil ol_cons ol_some x_move x_assign x_pick pk_t pk_f x_bin bn_s x_un x_extract x_callF cl_no x_callB x_callBF frzV x_conv cvx convA frame0 binA intOp resL resA results1 sealLW AV.pure AV.pureL keepT x_alloc x_box bxx x_build bdx x_buildSlice bsx x_buildSliceF bsf x_load ldx x_store stx x_slice slx x_fieldAddr x_field x_index ixx x_indexAddr iax x_makeSlice msx x_makeSliceF msf x_nilCheck newK genOf setK lookK fillA writeL writeC readC conts TyI.mk1 sliceA boundsA boundsB fitsA numA indexAddrA fieldAddrA partA fieldA indexA appendA copyA builtinA AV.cells chunk gcH reach keysT keepK inKs AV.keys AV.keysL Ty.isAgg eq1 eqL convA.go ltI w_u8 w_u32 w_u64 w_i64 w_fdiv w_tdiv w_tmod IntKind.bits unA sc_int sc_bool sc_str sc_sl sc_ref sc_ptr sc_pel sc_nilp sc_fn sc_nilf sc_if sc_nili sc_agg sc_tup sc_mem bs_pure bs_kl bs_length bs_cells bs_all sl_row sealRow sealY sl_int sl_bool sl_str sl_sl sl_nilp sl_nilf sl_nili sl_pel sl_agg sl_tup sl_fn sl_if nat_1 bs_cons bs_nil i_beq i_bne x_mkF x_mkI x_tassert x_panic s_pan s_sqp s_bkp s_finp s_fixp s_lpp s_rgp s_retp s_site s_stxN s_stxO x_callT clx El.avs_len s_dyn0 s_rgy barOf dynChk footL dynOK disjK keysOp opVals Op.operands
section
open Ab Go TabE Sp E34 F1 F4 F5 F31 F43 F44
namespace F45
def ret2 (k l:Key):Option (ARes × Heap) → Option (ARes × Option AObj × Option AObj)
  | some (r,h) => some (r,lookK h k,lookK h l)
  | none => none
theorem ret2_eq {k l:Key} {x:Option (ARes × Heap)} {r a b} (h:ret2 k l x=some (r,a,b)):∃ hf,x=some (r,hf) ∧ lookK hf k=a ∧ lookK hf l=b:=by
  unfold ret2 at h
  split at h
  · cases h; exact ⟨_,rfl,rfl,rfl⟩
  · cases h
abbrev er (s:List El):AObj:=⟨El.fl s,true,true,true,5,true⟩
abbrev CV (e:El) (B:AV) (k:Key):AV:=.agg [.int .u8 e.c,.bool e.k,.int .u32 e.n,B,.ref k 0 e.s.length (some e.s.length)]
theorem nilC (e:El) (hb:e.b=[]) (ls:e.s.length ≤ 1000000) (N:Nat) (B:∀ x ∈ e.s,Con E N 148 [x.av] (clo x).av):∃ h,(∀ q,N + e.s.length + 62 ≤ q → aRun E q 148 [e.av] []=some (.ret (CV e (.sl e.fb [] (some 0)) (1,14,0)),h)) ∧ lookK h (1,14,0)=some (er (e.s.map clo)):=by
  obtain ⟨K,hK⟩:∃ K,N + e.s.length + 61=K:=⟨_,rfl⟩
  have rl:row e e.s.length=e.s.map clo:=by unfold row; rw [Nat.sub_self,List.take_of_length_le (by simp)]; simp
  have r0:row e 0=List.replicate e.s.length E32.z0:=by unfold row; simp
  have L:=loopO (fn:=fn148) (b:=b86) (K:=K) (k:=K) (fun i => SN e (row e i) i) e.s.length rfl (fun i hi => by
    obtain ⟨x,hx⟩:∃ x,e.s[i]? = some x:=⟨e.s[i],by simp⟩
    have:=goN K K e x (row e i) i hx (row_len e i (by omega)) ls fun h => B x (List.mem_of_getElem? hx) K (by omega) 0 h
    rwa [row_next e x i hx] at this) (lastN K K e _) (by simp) (by omega)
  rw [rl,r0] at L
  have f1:=El.fl_len (e.s.map clo)
  have f2:=El.fl_keys (e.s.map clo)
  have f3:=El.fl_keys (List.replicate e.s.length E32.z0)
  have cp56:(e.s.length:Int) * 56 ≤ 70368744177664:=by omega
  have lv:=El.avs_len e.s
  have h0:(0:Int) ≤ e.s.length:=by omega
  have c1:=fun m slot c h => clone_nil K (by omega) m slot c h
  have c2:=fun m slot h => clip_nil K (by omega) m slot h
  have c3:=fun m slot c h => clone_emp K (by omega) m slot c h
  have c4:=fun slot h hk => clip_emp K (by omega) slot h (1,8,0) hk
  have key:ret2 (1,8,0) (1,14,0) (aRun E (K + 1) 148 [e.av] [])=some (.ret (CV e (.sl e.fb [] (some 0)) (1,14,0)),none,some (er (e.s.map clo))):=by
    rw [aRun_fn rfl E_fn148 rfl (Nat.le_of_ble_eq_true rfl),body_148,c148]
    simp [b86,lp,lps,c148,firstReg,SN,bx] at L
    cases hf:e.fb <;> (rw [hf] at L; simp [El.av_eq,-s_round,L,hb,hf,lv,c1,c2,c3,c4,f1,f2,f3,E32.fl_rep,cp56,List.length_map,ret2])
  obtain ⟨hh,q1,q2,q3⟩:=ret2_eq key
  exact ⟨hh,fun q hq => aRun_le E (K + 1) q (by omega) _ _ _ _ q1,q3⟩
theorem rowC (e:El) (hf:e.fb=false) (hb:e.b ≠ []) (lb:e.b.length ≤ 1000000) (ls:e.s.length ≤ 1000000) (N:Nat) (B:∀ x ∈ e.s,Con E N 148 [x.av] (clo x).av):∃ h,(∀ q,N + e.s.length + 62 ≤ q → aRun E q 148 [e.av] []=some (.ret (CV e (.ref (1,8,0) 0 e.b.length (some e.b.length)) (1,14,0)),h)) ∧ lookK h (1,8,0)=some (br e.b false) ∧ lookK h (1,14,0)=some (er (e.s.map clo)):=by
  obtain ⟨K,hK⟩:∃ K,N + e.s.length + 61=K:=⟨_,rfl⟩
  have rl:row e e.s.length=e.s.map clo:=by unfold row; rw [Nat.sub_self,List.take_of_length_le (by simp)]; simp
  have r0:row e 0=List.replicate e.s.length E32.z0:=by unfold row; simp
  have L:=loopO (fn:=fn148) (b:=b86) (K:=K) (k:=K) (fun i => SR e (row e i) i false) e.s.length rfl (fun i hi => by
    obtain ⟨x,hx⟩:∃ x,e.s[i]? = some x:=⟨e.s[i],by simp⟩
    have:=goR K K e x (row e i) i false hx (row_len e i (by omega)) ls fun h => B x (List.mem_of_getElem? hx) K (by omega) 0 h
    rwa [row_next e x i hx] at this) (lastR K K e _ false) (by simp) (by omega)
  rw [rl,r0] at L
  have f1:=El.fl_len (e.s.map clo)
  have f2:=El.fl_keys (e.s.map clo)
  have f3:=El.fl_keys (List.replicate e.s.length E32.z0)
  have cp56:(e.s.length:Int) * 56 ≤ 70368744177664:=by omega
  have lv:=El.avs_len e.s
  have c1:=clone_row e.b lb hb K (by omega)
  have c2:=fun slot h hk => clip_row K (by omega) slot h (1,8,0) e.b false hb hk
  have key:ret2 (1,8,0) (1,14,0) (aRun E (K + 1) 148 [e.av] [])=some (.ret (CV e (.ref (1,8,0) 0 e.b.length (some e.b.length)) (1,14,0)),some (br e.b false),some (er (e.s.map clo))):=by
    rw [aRun_fn rfl E_fn148 rfl (Nat.le_of_ble_eq_true rfl),body_148,c148]
    simp [b86,lp,lps,c148,firstReg,SR,bx] at L
    simp [El.av_eq,-s_round,L,hf,hb,lv,c1,c2,f1,f2,f3,E32.fl_rep,cp56,List.length_map,ret2]
  obtain ⟨hh,q1,q2,q3⟩:=ret2_eq key
  exact ⟨hh,fun q hq => aRun_le E (K + 1) q (by omega) _ _ _ _ q1,q2,q3⟩
end F45
end
end
section
open Ab Go TabE Sp E34 F1 F4 F5 F31 F43 F44 F45
namespace F46
theorem seal_row (n:Nat) (h:Heap) (key:Key) (b:List Int) (ex:Bool) (cap:Option Nat) (hk:lookK h key=some (br b ex)):sealA (n + 2) h (.ref key 0 b.length cap)=some (.sl false (bs b) cap,setK h key { br b ex with mt:=false }) :=
  seal_bytes hk rfl rfl rfl (by rw [bs_len]; omega) (by rw [List.drop_zero,← bs_len b,List.take_length])
theorem seal_els (n:Nat) (h:Heap) (key:Key) (s:List El) (cap:Option Nat) (hk:lookK h key=some (er s)):sealA (n + 2) h (.ref key 0 s.length cap)=some (.sl false (El.avs s) cap,setK h key { er s with mt:=false }):=E32.sealX_fl n h key s cap true true hk
theorem cl_av (e:El):(clo e).av=.agg [.int .u8 e.c,.bool e.k,.int .u32 e.n,.sl e.fb (bs e.b) (some e.b.length),.sl false (El.avs (e.s.map clo)) (some e.s.length)]:=by rw [cl_eq]; rfl
theorem sealR {e:El} {h:Heap} {ex:Bool} {k l:Key} (hf:e.fb=false) (kl:k ≠ l) (h1:lookK h k=some (br e.b ex)) (h2:lookK h l=some (er (e.s.map clo))):∃ g,sealA 20 h (CV e (.ref k 0 e.b.length (some e.b.length)) l)=some ((clo e).av,g):=by
  have s1:sealA 19 h (.ref k 0 e.b.length (some e.b.length))=_:=seal_row 17 h k e.b ex (some e.b.length) h1
  have s2:sealA 19 (setK h k { br e.b ex with mt:=false }) (.ref l 0 (e.s.map clo).length (some e.s.length))=_:=seal_els 17 (setK h k { br e.b ex with mt:=false }) l (e.s.map clo) (some e.s.length) (by rw [lookK_setK_other _ _ _ _ kl]; exact h2)
  rw [List.length_map] at s2
  refine ⟨setK (setK h k { br e.b ex with mt:=false }) l { er (e.s.map clo) with mt:=false },?_⟩
  rw [cl_av,hf]
  have a1:∀ g,sealA 19 g (.int .u8 e.c)=some (.int .u8 e.c,g):=fun g => rfl
  have a2:∀ g,sealA 19 g (.bool e.k)=some (.bool e.k,g):=fun g => rfl
  have a3:∀ g,sealA 19 g (.int .u32 e.n)=some (.int .u32 e.n,g):=fun g => rfl
  rw [show sealA 20 h (CV e (.ref k 0 e.b.length (some e.b.length)) l)=_ from sl_agg 19 h _]
  rw [if_neg (by simp [AV.pureL,AV.pure])]
  simp only [sealLW,a1,a2,a3,s1,s2]
  rfl
theorem sealN {e:El} {h:Heap} {l:Key} (hb:e.b=[]) (h2:lookK h l=some (er (e.s.map clo))):∃ g,sealA 20 h (CV e (.sl e.fb [] (some 0)) l)=some ((clo e).av,g):=by
  have s2:sealA 19 h (.ref l 0 (e.s.map clo).length (some e.s.length))=_:=seal_els 17 h l (e.s.map clo) (some e.s.length) h2
  rw [List.length_map] at s2
  refine ⟨setK h l { er (e.s.map clo) with mt:=false },?_⟩
  rw [cl_av,hb]
  have a1:∀ g,sealA 19 g (.int .u8 e.c)=some (.int .u8 e.c,g):=fun g => rfl
  have a2:∀ g,sealA 19 g (.bool e.k)=some (.bool e.k,g):=fun g => rfl
  have a3:∀ g,sealA 19 g (.int .u32 e.n)=some (.int .u32 e.n,g):=fun g => rfl
  have a4:∀ g,sealA 19 g (.sl e.fb [] (some 0))=some (.sl e.fb [] (some 0),g):=fun g => rfl
  rw [show sealA 20 h (CV e (.sl e.fb [] (some 0)) l)=_ from sl_agg 19 h _]
  rw [if_neg (by simp [AV.pureL,AV.pure])]
  simp only [sealLW,a1,a2,a3,a4,s2]
  rfl
theorem clone:∀ e:El,E31.Nn e → E33.Sh e → ∃ N,Con E N 148 [e.av] (clo e).av:=by
  refine El.ind fun e ih hn hs => ?_
  obtain ⟨_,n1,n2,n3⟩:=hn
  obtain ⟨_,s1,s2,s3⟩:=hs
  obtain ⟨N,hN⟩:=unif (P:=fun (x:El) (n:Nat) => Con E n 148 [x.av] (clo x).av) (fun x n m h hm => h.mono hm) e.s (fun x hx => ih x hx (n3 x hx) (s3 x hx))
  have pa:AV.pureL [e.av]=true:=by simp [AV.pureL,El.av_pure]
  by_cases hb:e.b=[]
  · obtain ⟨h,q1,q3⟩:=nilC e hb s2 N hN
    obtain ⟨g,hg⟩:=sealN hb q3
    exact ⟨_,Con.ofRun pa q1 hg (El.av_pure _)⟩
  · have hf:e.fb=false:=by cases q:e.fb; rfl; exact absurd (n1 q) hb
    obtain ⟨h,q1,q2,q3⟩:=rowC e hf hb s1 s2 N hN
    obtain ⟨g,hg⟩:=sealR hf (by simp) q2 q3
    exact ⟨_,Con.ofRun pa q1 hg (El.av_pure _)⟩
end F46
end
section
open Ab Go TabE
attribute [local simp ↓] s_seq s_reg s_regd s_cond s_block s_cons s_consG s_regD
attribute [local simp] s_nil s_loop s_round s_lpn s_lpe s_lpr firstReg s_gt s_gf s_wb s_wu s_val s_valN s_skip s_calls s_callP s_cax lookR flatR pureKs s_ret s_rgx s_sqn s_sqr s_sqe s_cdb s_bkn s_bkr s_bke s_exit s_ret' s_skip' s_finr s_finn s_fin1 s_fix s_clean s_gc0 o_tmp o_int o_bool o_nil o_str o_fn o_nil' l_hit l_miss l_nil ol_nil ol_cons ol_some x_move x_assign x_pick pk_t pk_f x_bin bn_s x_un x_extract x_callF cl_no x_callB x_callBF frzV x_conv cvx convA frame0 binA intOp resL resA results1 sealLW AV.pure AV.pureL keepT x_alloc x_box bxx x_build bdx x_buildSlice bsx x_buildSliceF bsf x_load ldx x_store stx x_slice slx x_fieldAddr x_field x_index ixx x_indexAddr iax x_makeSlice msx x_makeSliceF msf x_nilCheck newK genOf setK lookK fillA writeL writeC readC conts TyI.mk1 sliceA boundsA boundsB fitsA numA indexAddrA fieldAddrA partA fieldA indexA appendA copyA builtinA AV.cells chunk gcH reach keysT keepK inKs AV.keys AV.keysL Ty.isAgg eq1 eqL convA.go ltI w_u8 w_u32 w_u64 w_i64 w_fdiv w_tdiv w_tmod IntKind.bits unA sc_int sc_bool sc_str sc_sl sc_ref sc_ptr sc_pel sc_nilp sc_fn sc_nilf sc_if sc_nili sc_agg sc_tup sc_mem bs_pure bs_kl bs_length bs_cells bs_all sl_row sealRow sealY sl_int sl_bool sl_str sl_sl sl_nilp sl_nilf sl_nili sl_pel sl_agg sl_tup sl_fn sl_if nat_1 bs_cons bs_nil i_beq i_bne x_mkF x_mkI x_tassert x_panic s_pan s_sqp s_bkp s_finp s_fixp s_lpp s_rgp s_retp s_site s_stxN s_stxO x_callT clx El.avs_len s_dyn0 s_rgy barOf dynChk footL dynOK disjK keysOp opVals Op.operands
section
open Ab Go TabE Sp E34 F1 F4 F5 F31
namespace F34
theorem step_ok (e x:El) (n:Nat) (le:e.s.length ≤ 1000) (hx:e.s[n]? = some x):Con E 10 147 [e.av,.int .i64 n] (.tup [x.av,.bool true]):=by
  have hl:n < e.s.length:=(List.getElem?_eq_some_iff.1 hx).1
  have ix:=El.at_ e.fs e.cs e.s n x hx
  have n1:¬ ((n:Int) < 0):=by omega
  have n2:¬ ((e.s.length:Int) ≤ n):=by omega
  have n3:¬ (e.s.length ≤ n):=by omega
  have lv:=El.avs_len e.s
  refine con_of E_fn147 (by simp [AV.pureL,AV.pure,El.av_pure]) (Nat.le_of_ble_eq_true rfl) rfl rfl (g:=[]) ?_
  rw [body_147,c147,El.av_eq x]
  simp [El.av_eq e,-indexAddrA,ix,n1,n2,n3,lv,hl]
theorem step_bad (e:El) (p:Int) (h:p < 0 ∨ (e.s.length:Int) ≤ p):Con E 10 147 [e.av,.int .i64 p] (.tup [.agg z5,.bool false]):=by
  have lv:=El.avs_len e.s
  refine con_of E_fn147 (by simp [AV.pureL,AV.pure,El.av_pure]) (Nat.le_of_ble_eq_true rfl) rfl rfl (g:=[]) ?_
  rw [body_147,c147]
  by_cases h0:p < 0
  · simp [El.av_eq e,-indexAddrA,h0,lv]
  · have h1:(e.s.length:Int) ≤ p:=by omega
    simp [El.av_eq e,-indexAddrA,h0,h1,lv]
end F34
end
section
open Ab Go TabE Sp E34 F1 F4 F5 F31 F43 F44 F45 F46
namespace F47
def bT:Code:=lp c116 0
abbrev ST (f:Bool) (ps:List Int) (c:Option Nat) (i:Nat) (x:El):St:=⟨[(2,.ptr (1,2,0) 0),(4,.ptr (1,4,0) 0),(9,.sl f (ns ps) c),(10,.int .i64 (ps.length:Int)),(11,.int .i64 (i:Int))],[((1,2,0),bx (ec x)),((1,4,0),bx z5)]⟩
theorem go (q k1:Nat) (f ps c) (i:Nat) (e x:El) (p:Int) (hp:ps[i]? = some p) (lp':ps.length ≤ 1000) (p0:0 ≤ p) (le:e.s.length ≤ 1000) (hx:e.s[p.toNat]? = some x) (hq:10 ≤ q):rndO fn116 bT q k1 (ST f ps c i e)=some (.normal,ST f ps c (i + 1) x):=by
  have hi:i < ps.length:=(List.getElem?_eq_some_iff.1 hp).1
  have ip:=int_at f c ps i p hp
  have pp:(p.toNat:Int)=p:=Int.toNat_of_nonneg p0
  have st:=F34.step_ok e x p.toNat le hx q hq 0
  rw [pp] at st
  have w:=w64' ((i:Int) + 1) (by omega) (by omega)
  have ln:=ns_len ps
  rw [El.av_eq e] at st
  rw [El.av_eq x] at st
  simp [bT,lp,lps,c116,-indexAddrA,ip,w,hi,ln,st]
abbrev BadT:AExit × St:=(.ret,⟨[(4,.ptr (1,4,0) 0),(5,.int .i64 19)],[((1,4,0),bx z5)]⟩)
theorem bad (q k1:Nat) (f ps c) (i:Nat) (e:El) (p:Int) (hp:ps[i]? = some p) (lp':ps.length ≤ 1000) (h:p < 0 ∨ (e.s.length:Int) ≤ p) (hq:10 ≤ q):rndO fn116 bT q k1 (ST f ps c i e)=some BadT:=by
  have hi:i < ps.length:=(List.getElem?_eq_some_iff.1 hp).1
  have ip:=int_at f c ps i p hp
  have st:=F34.step_bad e p h q hq 0
  have ln:=ns_len ps
  rw [El.av_eq e] at st
  simp [bT,lp,lps,c116,-indexAddrA,ip,hi,ln,st]
abbrev OutT (f:Bool) (ps:List Int) (c:Option Nat) (x:El):AExit × St:=(.exit 0,⟨[(2,.ptr (1,2,0) 0),(4,.ptr (1,4,0) 0),(9,.sl f (ns ps) c),(10,.int .i64 (ps.length:Int)),(11,.int .i64 (ps.length:Int)),(12,.bool false)],[((1,2,0),bx (ec x)),((1,4,0),bx z5)]⟩)
theorem last (q k1:Nat) (f ps c) (e:El):rndO fn116 bT q k1 (ST f ps c ps.length e)=some (OutT f ps c e):=by
  have ln:=ns_len ps
  simp [bT,lp,lps,c116,ln]
abbrev LpT (K:Nat):=aLoop (aCode E (site fn116 (aRun E K)) (dcall (aRun E K)) K 1 fn116 bT) (cleanS 1 ((firstReg bT).bind fn116.head))
def End (f:Bool) (ps:List Int) (c:Option Nat):Option El → AExit × St
  | some x => OutT f ps c x
  | none => BadT
inductive Wd:El → Prop
  | mk (e:El):e.s.length ≤ 1000 → (∀ x ∈ e.s,Wd x) → Wd e
theorem loop (K:Nat) (hK:10 ≤ K) (f:Bool) (ps:List Int) (c:Option Nat) (lp':ps.length ≤ 1000):∀ (r:List Int) (e:El) (i k:Nat),Wd e → ps.drop i=r → i ≤ ps.length → r.length < k →
    LpT K k (ST f ps c i e)=some (End f ps c (E34.walk e r))
  | [],e,i,k,wd,h1,hi,hk => by
    obtain ⟨k,rfl⟩:∃ j,k=j + 1:=⟨k - 1,by omega⟩
    have q:=congrArg List.length h1
    rw [List.length_drop,List.length_nil] at q
    obtain rfl:i=ps.length:=by omega
    have h:=aLoop_end (k:=k) (last K K f ps c e) (fun h => by cases h)
    unfold E34.walk End
    exact h
  | p :: r,e,i,k,wd,h1,hi,hk => by
    obtain ⟨k,rfl⟩:∃ j,k=j + 1:=⟨k - 1,by omega⟩
    obtain ⟨_,w1,w2⟩:=wd
    have hp:ps[i]? = some p:=by
      have:=congrArg (fun l => l[0]?) h1
      simpa [List.getElem?_drop] using this
    have hd:ps.drop (i + 1)=r:=by
      have:=congrArg List.tail h1
      simpa [List.tail_drop] using this
    have q:=congrArg List.length h1
    rw [List.length_drop,List.length_cons] at q
    unfold E34.walk
    by_cases h0:p < 0
    · rw [if_pos h0]
      exact aLoop_end (bad K K f ps c i e p hp lp' (.inl h0) hK) (fun h => by cases h)
    · rw [if_neg h0]
      cases hx:e.s[p.toNat]? with
      | none =>
        have:=List.getElem?_eq_none_iff.1 hx
        exact aLoop_end (bad K K f ps c i e p hp lp' (.inr (by omega)) hK) (fun h => by cases h)
      | some x =>
        unfold LpT
        rw [aLoop_succ (go K K f ps c i e x p hp lp' (by omega) w1 hx hK)]
        exact loop K hK f ps c lp' r x (i + 1) k (w2 x (List.mem_of_getElem? hx)) hd (by omega) (by simp at hk; omega)
theorem at_none (e:El) (wd:Wd e) (f:Bool) (ps:List Int) (c:Option Nat) (lp':ps.length ≤ 1000) (hw:E34.walk e ps=none):∃ N,Run E N 116 [e.av,.sl f (ns ps) c] [] (.ret (.tup [.agg z5,.int .i64 19])) [((1,4,0),bx z5)]:=by
  obtain ⟨K,hK⟩:∃ K,ps.length + 60=K:=⟨_,rfl⟩
  have L:=loop K (by omega) f ps c lp' ps e 0 K wd rfl (by omega) (by omega)
  rw [hw] at L
  have ln:=ns_len ps
  have key:aRun E (K + 1) 116 [e.av,.sl f (ns ps) c] []=some (.ret (.tup [.agg z5,.int .i64 19]),[((1,4,0),bx z5)]):=by
    rw [aRun_fn rfl E_fn116 rfl (Nat.le_of_ble_eq_true rfl),body_116,c116]
    simp [LpT,bT,lp,lps,c116,firstReg,ST,bx,ec,End] at L
    simp [El.av_eq,-s_round,L,ln]
  exact ⟨K + 1,fun q hq => aRun_le E (K + 1) q hq _ _ _ _ key⟩
theorem op_cloneN {e:El} {hf:Heap} {q:Nat} (hr:aRun E q 148 [e.av] []=some (.ret (CV e (.sl e.fb [] (some 0)) (1,14,0)),hf)) (h2:lookK hf (1,14,0)=some (er (e.s.map clo))) (m:List Bool) (slot:Nat) (h:Heap) :
    opened m false (aRun E q) slot 148 [e.av] h=some (.ret (CV e (.sl e.fb [] (some 0)) (1,slot,genOf h 1 slot)),setK h (1,slot,genOf h 1 slot) (er (e.s.map clo))):=by
  have k2:=El.fl_keys (e.s.map clo)
  have r2:∀ φ,AV.rnL φ (El.fl (e.s.map clo))=El.fl (e.s.map clo):=fun φ => rnL_pure _ (El.fl_pure _)
  rw [FO.op_fresh (m:=m) (slot:=slot) (h:=h) [(1,14,0)] (by simp [AV.pureL,El.av_pure]) hr (by simp [reach,h2,AV.keysL,AV.keys,dd,k2]) (by simp [closedH,h2,AV.keysL,AV.keys,k2]) (by simp) (by simp [AV.keysL,AV.keys,inKs])]
  simp [AV.rn,AV.rnL,outK,posK,putAll,h2,r2]
theorem op_cloneR {e:El} {hf:Heap} {q:Nat} {ex:Bool} (hr:aRun E q 148 [e.av] []=some (.ret (CV e (.ref (1,8,0) 0 e.b.length (some e.b.length)) (1,14,0)),hf)) (h1:lookK hf (1,8,0)=some (br e.b ex)) (h2:lookK hf (1,14,0)=some (er (e.s.map clo))) (m:List Bool) (slot:Nat) (h:Heap) :
    opened m false (aRun E q) slot 148 [e.av] h=some (.ret (CV e (.ref (1,slot,genOf h 1 slot) 0 e.b.length (some e.b.length)) (1,slot,genOf h 1 slot + 1)),setK (setK h (1,slot,genOf h 1 slot) (br e.b ex)) (1,slot,genOf h 1 slot + 1) (er (e.s.map clo))):=by
  have k1:=bs_kl e.b
  have k2:=El.fl_keys (e.s.map clo)
  have r1:∀ φ,AV.rnL φ (bs e.b)=bs e.b:=fun φ => rnL_pure _ (bs_pure _)
  have r2:∀ φ,AV.rnL φ (El.fl (e.s.map clo))=El.fl (e.s.map clo):=fun φ => rnL_pure _ (El.fl_pure _)
  rw [FO.op_fresh (m:=m) (slot:=slot) (h:=h) [(1,8,0),(1,14,0)] (by simp [AV.pureL,El.av_pure]) hr (by simp [reach,h1,h2,AV.keysL,AV.keys,dd,k1,k2]) (by simp [closedH,h1,h2,AV.keysL,AV.keys,k1,k2]) (by simp) (by simp [AV.keysL,AV.keys,inKs])]
  simp [AV.rn,AV.rnL,outK,posK,putAll,h1,h2,r1,r2]
theorem at_N (e x:El) (wd:Wd e) (nn:E31.Nn x) (sh:E33.Sh x) (hb:x.b=[]) (f:Bool) (ps:List Int) (c:Option Nat) (lp':ps.length ≤ 1000) (hw:E34.walk e ps=some x):∃ N h,Run E N 116 [e.av,.sl f (ns ps) c] [] (.ret (.tup [CV x (.sl x.fb [] (some 0)) (1,26,0),.int .i64 0])) h ∧ lookK h (1,26,0)=some (er (x.s.map clo)):=by
  obtain ⟨_,n1,n2,n3⟩:=nn
  obtain ⟨_,s1,s2,s3⟩:=sh
  obtain ⟨N,hN⟩:=unif (P:=fun (x:El) (n:Nat) => Con E n 148 [x.av] (clo x).av) (fun x n m h hm => h.mono hm) x.s (fun y hy => clone y (n3 y hy) (s3 y hy))
  obtain ⟨hh,q1,q3⟩:=nilC x hb s2 N hN
  obtain ⟨K,hK⟩:∃ K,N + x.s.length + ps.length + 90=K:=⟨_,rfl⟩
  have o:=op_cloneN (q1 K (by omega)) q3
  have L:=loop K (by omega) f ps c lp' ps e 0 K wd rfl (by omega) (by omega)
  rw [hw] at L
  have ln:=ns_len ps
  have k2:=El.fl_keys (x.s.map clo)
  rw [El.av_eq] at o
  have key:ret1 (1,26,0) (aRun E (K + 1) 116 [e.av,.sl f (ns ps) c] [])=some (.ret (.tup [CV x (.sl x.fb [] (some 0)) (1,26,0),.int .i64 0]),some (er (x.s.map clo))):=by
    rw [aRun_fn rfl E_fn116 rfl (Nat.le_of_ble_eq_true rfl),body_116,c116]
    simp [LpT,bT,lp,lps,c116,firstReg,ST,bx,ec,End] at L
    simp [El.av_eq,-s_round,L,ln,o,k2,ret1]
  obtain ⟨h,z1,z2⟩:=ret1_eq key
  exact ⟨K + 1,h,fun q hq => aRun_le E (K + 1) q hq _ _ _ _ z1,z2⟩
theorem at_R (e x:El) (wd:Wd e) (nn:E31.Nn x) (sh:E33.Sh x) (hf:x.fb=false) (hb:x.b ≠ []) (f:Bool) (ps:List Int) (c:Option Nat) (lp':ps.length ≤ 1000) (hw:E34.walk e ps=some x):∃ N h,Run E N 116 [e.av,.sl f (ns ps) c] [] (.ret (.tup [CV x (.ref (1,26,0) 0 x.b.length (some x.b.length)) (1,26,1),.int .i64 0])) h ∧ lookK h (1,26,0)=some (br x.b false) ∧ lookK h (1,26,1)=some (er (x.s.map clo)):=by
  obtain ⟨_,n1,n2,n3⟩:=nn
  obtain ⟨_,s1,s2,s3⟩:=sh
  obtain ⟨N,hN⟩:=unif (P:=fun (x:El) (n:Nat) => Con E n 148 [x.av] (clo x).av) (fun x n m h hm => h.mono hm) x.s (fun y hy => clone y (n3 y hy) (s3 y hy))
  obtain ⟨hh,q1,q2,q3⟩:=rowC x hf hb s1 s2 N hN
  obtain ⟨K,hK⟩:∃ K,N + x.s.length + ps.length + 90=K:=⟨_,rfl⟩
  have o:=op_cloneR (q1 K (by omega)) q2 q3
  have L:=loop K (by omega) f ps c lp' ps e 0 K wd rfl (by omega) (by omega)
  rw [hw] at L
  have ln:=ns_len ps
  have k1:=bs_kl x.b
  have k2:=El.fl_keys (x.s.map clo)
  rw [El.av_eq] at o
  have key:ret2 (1,26,0) (1,26,1) (aRun E (K + 1) 116 [e.av,.sl f (ns ps) c] [])=some (.ret (.tup [CV x (.ref (1,26,0) 0 x.b.length (some x.b.length)) (1,26,1),.int .i64 0]),some (br x.b false),some (er (x.s.map clo))):=by
    rw [aRun_fn rfl E_fn116 rfl (Nat.le_of_ble_eq_true rfl),body_116,c116]
    simp [LpT,bT,lp,lps,c116,firstReg,ST,bx,ec,End] at L
    simp [El.av_eq,-s_round,L,ln,o,k1,k2,ret2]
  obtain ⟨h,z1,z2,z3⟩:=ret2_eq key
  exact ⟨K + 1,h,fun q hq => aRun_le E (K + 1) q hq _ _ _ _ z1,z2,z3⟩
end F47
end
section
open Ab Go TabE Sp E34 F1 F4 F5 F20 F23 F31 F43 F44 F45 F46 F47 F64
namespace F65
theorem sealTN {e:El} {h:Heap} {l:Key} (hb:e.b=[]) (h2:lookK h l=some (er (e.s.map clo))):∃ g,sealA 20 h (.tup [CV e (.sl e.fb [] (some 0)) l,.int .i64 0])=some (.tup [(clo e).av,.int .i64 0],g):=by
  have s2:sealA 18 h (.ref l 0 (e.s.map clo).length (some e.s.length))=_:=seal_els 16 h l (e.s.map clo) (some e.s.length) h2
  rw [List.length_map] at s2
  refine ⟨setK h l { er (e.s.map clo) with mt:=false },?_⟩
  rw [cl_av,hb]
  have a1:∀ g,sealA 18 g (.int .u8 e.c)=some (.int .u8 e.c,g):=fun g => rfl
  have a2:∀ g,sealA 18 g (.bool e.k)=some (.bool e.k,g):=fun g => rfl
  have a3:∀ g,sealA 18 g (.int .u32 e.n)=some (.int .u32 e.n,g):=fun g => rfl
  have a4:∀ g,sealA 18 g (.sl e.fb [] (some 0))=some (.sl e.fb [] (some 0),g):=fun g => rfl
  have a5:∀ g,sealA 19 g (.int .i64 0)=some (.int .i64 0,g):=fun g => rfl
  have a6:sealA 19 h (CV e (.sl e.fb [] (some 0)) l)=some (.agg [.int .u8 e.c,.bool e.k,.int .u32 e.n,.sl e.fb [] (some 0),.sl false (El.avs (e.s.map clo)) (some e.s.length)],setK h l { er (e.s.map clo) with mt:=false }):=by
    rw [show sealA 19 h (CV e (.sl e.fb [] (some 0)) l)=_ from sl_agg 18 h _]
    rw [if_neg (by simp [AV.pureL,AV.pure])]
    simp only [sealLW,a1,a2,a3,a4,s2]
    rfl
  rw [show sealA 20 h (.tup [CV e (.sl e.fb [] (some 0)) l,.int .i64 0])=_ from sl_tup 19 h _]
  rw [if_neg (by simp [AV.pureL,AV.pure])]
  simp only [sealLW,a6,a5]
  try rfl
theorem sealTR {e:El} {h:Heap} {ex:Bool} {k l:Key} (hf:e.fb=false) (kl:k ≠ l) (h1:lookK h k=some (br e.b ex)) (h2:lookK h l=some (er (e.s.map clo))):∃ g,sealA 20 h (.tup [CV e (.ref k 0 e.b.length (some e.b.length)) l,.int .i64 0])=some (.tup [(clo e).av,.int .i64 0],g):=by
  have s1:sealA 18 h (.ref k 0 e.b.length (some e.b.length))=_:=seal_row 16 h k e.b ex (some e.b.length) h1
  have s2:sealA 18 (setK h k { br e.b ex with mt:=false }) (.ref l 0 (e.s.map clo).length (some e.s.length))=_:=seal_els 16 (setK h k { br e.b ex with mt:=false }) l (e.s.map clo) (some e.s.length) (by rw [lookK_setK_other _ _ _ _ kl]; exact h2)
  rw [List.length_map] at s2
  refine ⟨setK (setK h k { br e.b ex with mt:=false }) l { er (e.s.map clo) with mt:=false },?_⟩
  rw [cl_av,hf]
  have a1:∀ g,sealA 18 g (.int .u8 e.c)=some (.int .u8 e.c,g):=fun g => rfl
  have a2:∀ g,sealA 18 g (.bool e.k)=some (.bool e.k,g):=fun g => rfl
  have a3:∀ g,sealA 18 g (.int .u32 e.n)=some (.int .u32 e.n,g):=fun g => rfl
  have a5:∀ g,sealA 19 g (.int .i64 0)=some (.int .i64 0,g):=fun g => rfl
  have a6:sealA 19 h (CV e (.ref k 0 e.b.length (some e.b.length)) l)=some (.agg [.int .u8 e.c,.bool e.k,.int .u32 e.n,.sl false (bs e.b) (some e.b.length),.sl false (El.avs (e.s.map clo)) (some e.s.length)],setK (setK h k { br e.b ex with mt:=false }) l { er (e.s.map clo) with mt:=false }):=by
    rw [show sealA 19 h (CV e (.ref k 0 e.b.length (some e.b.length)) l)=_ from sl_agg 18 h _]
    rw [if_neg (by simp [AV.pureL,AV.pure])]
    simp only [sealLW,a1,a2,a3,s1,s2]
    rfl
  rw [show sealA 20 h (.tup [CV e (.ref k 0 e.b.length (some e.b.length)) l,.int .i64 0])=_ from sl_tup 19 h _]
  rw [if_neg (by simp [AV.pureL,AV.pure])]
  simp only [sealLW,a6,a5]
  try rfl
theorem at_con (e:El) (wd:Wd e) (nn:E31.Nn e) (sh:E33.Sh e) (f:Bool) (ps:List Int) (c:Option Nat) (lp':ps.length ≤ 1000):∃ N,Con E N 116 [e.av,.sl f (ns ps) c] (match E34.walk e ps with
    | some x => .tup [(clo x).av,.int .i64 0]
    | none => .tup [.agg z5,.int .i64 19]):=by
  have pn:=ns_pure ps
  have pa:AV.pureL [e.av,.sl f (ns ps) c]=true:=by simp [AV.pureL,El.av_pure,AV.pure,pn]
  cases hw:E34.walk e ps with
  | none =>
    obtain ⟨N,R⟩:=at_none e wd f ps c lp' hw
    exact ⟨N,Con.ofRun pa R (g:=[((1,4,0),bx z5)]) rfl rfl⟩
  | some x =>
    have nx:E31.Nn x:=walk_P (P:=E31.Nn) (fun e h y hy => by cases h with | mk _ _ _ r => exact r y hy) ps e x nn hw
    have sx:E33.Sh x:=walk_P (P:=E33.Sh) (fun e h y hy => by cases h with | mk _ _ _ r => exact r y hy) ps e x sh hw
    have pv:(AV.tup [(clo x).av,.int .i64 0]).pure=true:=by simp [AV.pure,AV.pureL,El.av_pure]
    by_cases hb:x.b=[]
    · obtain ⟨N,h,R,q⟩:=at_N e x wd nx sx hb f ps c lp' hw
      obtain ⟨g,hg⟩:=sealTN hb q
      exact ⟨N,Con.ofRun pa R hg pv⟩
    · have hf:x.fb=false:=by
        obtain ⟨_,n1,_,_⟩:=nx
        cases q:x.fb
        · rfl
        · exact absurd (n1 q) hb
      obtain ⟨N,h,R,q1,q2⟩:=at_R e x wd nx sx hf hb f ps c lp' hw
      obtain ⟨g,hg⟩:=sealTR hf (by simp) q1 q2
      exact ⟨N,Con.ofRun pa R hg pv⟩
end F65
end
section
open Ab Go TabE Sp E34
namespace A0
def b48:Code:=lp c17 0
abbrev S48 (f g:Bool) (d:Option Nat) (p:List Int) (e:Int) (i:Nat):St:=⟨[(2,.ptr (1,2,0) 0),(3,.ptr (1,3,0) 0),(5,.int .i64 (i:Int))],[((1,2,0),bx [.sl f (ns p) (some p.length),.int .i64 e]),((1,3,0),bx [.sl g (ns p) d,.int .i64 e])]⟩
theorem go48 (q k1:Nat) (f g d) (p:List Int) (e:Int) (i:Nat) (x:Int) (hx:p[i]? = some x) (hl:p.length ≤ 100000000):rnd fn17 b48 q k1 (S48 f g d p e i)=some (.normal,S48 f g d p e (i + 1)):=by
  have hi:i < p.length:=(List.getElem?_eq_some_iff.1 hx).1
  have ix:=int_at f (some p.length) p i x hx
  have iy:=int_at g d p i x hx
  have w:=w64' ((i:Int) + 1) (by omega) (by omega)
  simp [b48,lp,lps,c17,-indexAddrA,ix,iy,w,hi]
theorem last48 (q k1:Nat) (f g d) (p:List Int) (e:Int):rnd fn17 b48 q k1 (S48 f g d p e p.length)=some (.exit 0,⟨[(2,.ptr (1,2,0) 0),(3,.ptr (1,3,0) 0),(5,.int .i64 (p.length:Int)),(33,.bool false)],(S48 f g d p e p.length).h⟩):=by
  simp [b48,lp,lps,c17]
theorem fault (f g d) (p:List Int) (e:Int) (hl:p.length ≤ 100000000):Con E (p.length + 20) 17 [.agg [.sl f (ns p) (some p.length),.int .i64 e],.agg [.sl g (ns p) d,.int .i64 e]] (.int .i64 1):=by
  obtain ⟨K,hK⟩:∃ K,p.length + 19=K:=⟨_,rfl⟩
  have eK:p.length + 20=K + 1:=by omega
  rw [eK]
  have L:=loopQ (fn:=fn17) (b:=b48) (K:=K) (k:=K) (fun i => S48 f g d p e i) p.length rfl (fun i hi => by
    obtain ⟨x,hx⟩:∃ x,p[i]? = some x:=⟨p[i],by simp⟩
    exact go48 K K f g d p e i x hx hl) (last48 K K f g d p e) (by simp) (by omega)
  refine con_of E_fn17 (by simp [AV.pureL,AV.pure]) (Nat.le_of_ble_eq_true rfl) rfl rfl (g:=[]) ?_
  rw [body_17,c17]
  simp [b48,lp,lps,c17,firstReg,S48,bx] at L
  simp [-s_round,L]
end A0
end
section
open Ab Go TabE Sp E34 F1 Rw F5 F6 F7 F8 F43 F47 AP
namespace A1
theorem fnil (e:Int):Con E 10 68 [.int .i64 e,.sl true [] (some 0)] (fF [] e):=by
  have c:=clipI true [] (some 0) rfl 9 (by omega) 0
  refine con_of E_fn68 rfl (Nat.le_of_ble_eq_true rfl) rfl rfl (g:=[]) ?_
  rw [body_68,c68]
  try simp at c
  simp [c]
theorem fone (e x:Int) (c:Option Nat):Con E 10 68 [.int .i64 e,.sl false [.int .i64 x] c] (fF [x] e):=by
  have c:=clipI false [.int .i64 x] c rfl 9 (by omega) 0
  refine con_of E_fn68 rfl (Nat.le_of_ble_eq_true rfl) rfl rfl (g:=[]) ?_
  rw [body_68,c68]
  try simp at c
  simp [c]
theorem clone (e:El) (wd:Wd e) (nn:E31.Nn e) (sh:E33.Sh e):∃ N,Con E N 70 [e.av] (clo e).av:=by
  obtain ⟨N,A⟩:=F65.at_con e wd nn sh true [] (some 0) (by simp)
  simp only [E34.walk] at A
  refine ⟨N + 20 + 1,con_of E_fn70 (by simp [AV.pureL,El.av_pure]) (Nat.le_of_ble_eq_true rfl) rfl rfl (g:=[]) ?_⟩
  have a:=A (N + 20) (by omega) 0
  rw [El.av_eq,El.av_eq (clo e)] at a
  try simp [ns] at a
  rw [body_70,c70]
  rw [El.av_eq,El.av_eq (clo e)]
  simp [a]
def zE (e:El):Bool:=decide (e.c=0) && (!e.k && (decide (e.n=0) && (e.b.isEmpty && e.s.isEmpty)))
theorem zero (e:El):Con E 20 118 [e.av] (.bool (zE e)):=by
  refine con_of E_fn118 (by simp [AV.pureL,El.av_pure]) (Nat.le_of_ble_eq_true rfl) rfl rfl (g:=[]) ?_
  rw [body_118,c118]
  unfold zE
  rw [El.av_eq]
  by_cases h1:e.c=0
  case neg => simp [h1,fitZ]
  by_cases h2:e.k=true
  case pos => simp [h1,h2,fitZ]
  by_cases h3:e.n=0
  case neg => simp [h1,h2,h3,fitZ]
  by_cases h4:e.b=[]
  case neg => simp [h1,h2,h3,h4,fitZ]
  by_cases h5:e.s=[]
  case neg => simp [h1,h2,h3,h4,h5,fitZ]
  simp [h1,h2,h3,h4,h5,fitZ,El.avs]
end A1
end
end
