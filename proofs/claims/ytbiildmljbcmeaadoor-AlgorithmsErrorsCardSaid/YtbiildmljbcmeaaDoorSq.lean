/- Own work, no conditions. -/
import Derived.Test.YtbiildmljbcmeaaDoorTabEe
import Derived.Test.YtbiildmljbcmeaaDoorB40e
import Derived.Test.YtbiildmljbcmeaaDoorB18
import Derived.KernelRfl
import Derived.Test.YtbiildmljbcmeaaDoorB24
set_option maxRecDepth 20000
set_option linter.unusedSimpArgs false
set_option linter.unusedVariables false
set_option maxHeartbeats 16000000
section
open Ab Go TabE
namespace Ab
inductive El where
  | mk (c:Int) (k:Bool) (n:Int) (fb:Bool) (b:List Int) (cb:Option Nat) (fs:Bool) (s:List El) (cs:Option Nat)
namespace El
def c:El → Int | mk c _ _ _ _ _ _ _ _ => c
def k:El → Bool | mk _ k _ _ _ _ _ _ _ => k
def n:El → Int | mk _ _ n _ _ _ _ _ _ => n
def fb:El → Bool | mk _ _ _ fb _ _ _ _ _ => fb
def b:El → List Int | mk _ _ _ _ b _ _ _ _ => b
def cb:El → Option Nat | mk _ _ _ _ _ cb _ _ _ => cb
def fs:El → Bool | mk _ _ _ _ _ _ fs _ _ => fs
def s:El → List El | mk _ _ _ _ _ _ _ s _ => s
def cs:El → Option Nat | mk _ _ _ _ _ _ _ _ cs => cs
mutual
def av:El → AV
  | mk c k n fb b cb fs s cs => .agg [.int .u8 c,.bool k,.int .u32 n,.sl fb (bs b) cb,.sl fs (avs s) cs]
def avs:List El → List AV
  | [] => []
  | e :: r => av e :: avs r
end
theorem avs_map:∀ l,avs l=l.map av
  | [] => rfl
  | e :: r => by rw [avs,avs_map r]; rfl
theorem av_eq (e:El):e.av=.agg [.int .u8 e.c,.bool e.k,.int .u32 e.n,.sl e.fb (bs e.b) e.cb,.sl e.fs (avs e.s) e.cs]:=by cases e; rfl
theorem av_pure (e:El):e.av.pure=true:=by rw [av_eq]; rfl
theorem avs_pure:∀ l,AV.pureL (avs l)=true
  | [] => rfl
  | e :: r => by rw [avs,AV.pureL,av_pure,avs_pure r]; rfl
theorem avs_keys (l):AV.keysL (avs l)=[]:=AV.keysL_pure _ (avs_pure l)
theorem avs_len (l):(avs l).length=l.length:=by rw [avs_map,List.length_map]
theorem avs_get (l:List El) (i:Nat):(avs l)[i]? = (l[i]?).map av:=by rw [avs_map,List.getElem?_map]
theorem sz_lt {e x:El} (h:x ∈ e.s):sizeOf x < sizeOf e:=by
  cases e
  have:=List.sizeOf_lt_of_mem h
  simp only [s] at *
  simp only [mk.sizeOf_spec]
  omega
theorem ind {P:El → Prop} (h:∀ e,(∀ x ∈ e.s,P x) → P e):∀ e,P e:=by
  intro e
  generalize hn:sizeOf e=m
  induction m using Nat.strongRecOn generalizing e with
  | ind m ih => exact h e fun x hx => ih (sizeOf x) (by rw [← hn]; exact sz_lt hx) x rfl
end El
inductive Cr where
  | mk (c:Int) (k:Bool) (n:Int) (b:List Int) (s:List Cr)
namespace El
mutual
def core:El → Cr
  | mk c k n _ b _ _ s _ => .mk c k n b (cores s)
def cores:List El → List Cr
  | [] => []
  | e :: r => core e :: cores r
end
theorem cores_map:∀ l,cores l=l.map core
  | [] => rfl
  | e :: r => by rw [cores,cores_map r]; rfl
theorem core_eq (e:El):e.core=.mk e.c e.k e.n e.b (cores e.s):=by cases e; rfl
theorem core_inj {a b:El}:a.core=b.core ↔ a.c=b.c ∧ a.k=b.k ∧ a.n=b.n ∧ a.b=b.b ∧ cores a.s=cores b.s:=by
  rw [core_eq,core_eq]; simp
theorem cores_len {a b:List El} (h:cores a=cores b):a.length=b.length:=by
  have:=congrArg List.length h
  simpa [cores_map] using this
theorem cores_get {a b:List El} (h:cores a=cores b) {i:Nat} {x y:El} (hx:a[i]? = some x) (hy:b[i]? = some y):x.core=y.core:=by
  have:=congrArg (fun l => l[i]?) h
  simp [cores_map,hx,hy] at this
  exact this
mutual
def ok:El → Prop
  | mk c _ n _ b _ _ s _ => (0 ≤ c ∧ c < 256) ∧ (0 ≤ n ∧ n < 4294967296) ∧ isB b ∧ b.length ≤ 9223372036854775807 ∧ s.length ≤ 9223372036854775807 ∧ oks s
def oks:List El → Prop
  | [] => True
  | e :: r => ok e ∧ oks r
end
theorem oks_all:∀ {l},oks l ↔ ∀ x ∈ l,ok x
  | [] => by simp [oks]
  | e :: r => by rw [oks,oks_all (l:=r)]; simp
theorem ok_eq (e:El):e.ok ↔ (0 ≤ e.c ∧ e.c < 256) ∧ (0 ≤ e.n ∧ e.n < 4294967296) ∧ isB e.b ∧ e.b.length ≤ 9223372036854775807 ∧ e.s.length ≤ 9223372036854775807 ∧ ∀ x ∈ e.s,x.ok:=by
  cases e; rw [ok,oks_all]; rfl
theorem ok.cb {e:El} (h:e.ok):0 ≤ e.c ∧ e.c < 256:=((ok_eq e).1 h).1
theorem ok.nb {e:El} (h:e.ok):0 ≤ e.n ∧ e.n < 4294967296:=((ok_eq e).1 h).2.1
theorem ok.bb {e:El} (h:e.ok):isB e.b:=((ok_eq e).1 h).2.2.1
theorem ok.bl {e:El} (h:e.ok):e.b.length ≤ 9223372036854775807:=((ok_eq e).1 h).2.2.2.1
theorem ok.sl {e:El} (h:e.ok):e.s.length ≤ 9223372036854775807:=((ok_eq e).1 h).2.2.2.2.1
theorem ok.sub {e:El} (h:e.ok):∀ x ∈ e.s,x.ok:=((ok_eq e).1 h).2.2.2.2.2
theorem av_cells (e:El):e.av.cells=[.int .u8 e.c,.bool e.k,.int .u32 e.n,.sl e.fb (bs e.b) e.cb,.sl e.fs (avs e.s) e.cs]:=by rw [av_eq]; rfl
theorem at_ (f c) (l:List El) (i:Nat) (x:El) (h:l[i]? = some x):∀ hp,indexAddrA E 27 (.sl f (avs l) c) (.int .i64 i) hp=some (.pel [.int .u8 x.c,.bool x.k,.int .u32 x.n,.sl x.fb (bs x.b) x.cb,.sl x.fs (avs x.s) x.cs]):=by
  intro hp
  have hi:i < l.length:=(List.getElem?_eq_some_iff.1 h).1
  unfold indexAddrA
  simp only [E_ty27,E_ty29]
  rw [if_pos ⟨by omega,by rw [avs_len]; omega⟩]
  simp only [Int.toNat_natCast,avs_get,h,Option.map_some]
  rw [av_cells]
  rfl
end El
theorem unif {α:Type} {P:α → Nat → Prop} (mono:∀ x n m,P x n → n ≤ m → P x m):∀ (l:List α),(∀ x ∈ l,∃ n,P x n) → ∃ n,∀ x ∈ l,P x n
  | [],_ => ⟨0,fun x h => by cases h⟩
  | a :: l,h => by
    obtain ⟨n,hn⟩:=unif mono l fun x hx => h x (List.mem_cons_of_mem _ hx)
    obtain ⟨m,hm⟩:=h a (List.mem_cons_self ..)
    refine ⟨max n m,fun x hx => ?_⟩
    rcases List.mem_cons.1 hx with rfl | hx
    · exact mono _ _ _ hm (by omega)
    · exact mono _ _ _ (hn x hx) (by omega)
theorem w64' (n:Int) (h0:-9223372036854775808 ≤ n) (h1:n < 9223372036854775808):IntKind.i64.wrap n=n:=w_i64 n h0 h1
theorem loopR {f:St → Option (AExit × St)} {cl:St → St} {k:Nat} {s0:St} {r:AExit × St} (S:Nat → St) (N:Nat) (h0:s0=S 0) (step:∀ i,i < N → f (cl (S i))=some (.normal,S (i + 1))) (last:f (cl (S N))=some r) (hr:r.1 ≠ .normal) (hk:N < k):aLoop f cl k s0=some r:=by
  subst h0
  have gen:∀ m i k,i + m=N → m < k → aLoop f cl k (S i)=some r:=by
    intro m
    induction m with
    | zero =>
      intro i k hi hk
      obtain rfl:i=N:=by omega
      obtain ⟨k,rfl⟩:∃ j,k=j + 1:=⟨k - 1,by omega⟩
      simp only [aLoop,last]
      obtain ⟨e,s⟩:=r
      cases e <;> first | rfl | exact absurd rfl hr
    | succ m ih =>
      intro i k hi hk
      obtain ⟨k,rfl⟩:∃ j,k=j + 1:=⟨k - 1,by omega⟩
      simp only [aLoop,step i (by omega)]
      exact ih (i + 1) k (by omega) (by omega)
  exact gen N 0 k (by omega) hk
def lps:Code → List Code
  | .seq a b => lps a ++ lps b
  | .block _ b => lps b
  | .cond _ a b => lps a ++ lps b
  | .loop b => [b]
  | _ => []
def lp (c:Code) (i:Nat):Code:=((lps c)[i]?).getD .skip
abbrev rnd (fn:AFn) (b:Code) (q k1:Nat) (s:St):Option (AExit × St):=aCode E (aCall E q) (dcall (aRun E q)) k1 1 fn b (cleanS 1 ((firstReg b).bind fn.head) s)
theorem loopQ {fn:AFn} {b:Code} {K k:Nat} {s0:St} {r:AExit × St} (S:Nat → St) (N:Nat) (h0:s0=S 0) (step:∀ i,i < N → rnd fn b K K (S i)=some (.normal,S (i + 1))) (last:rnd fn b K K (S N)=some r) (hr:r.1 ≠ .normal) (hk:N < k) :
    aLoop (aCode E (aCall E K) (dcall (aRun E K)) K 1 fn b) (cleanS 1 ((firstReg b).bind fn.head)) k s0=some r:=loopR S N h0 step last hr hk
abbrev rndO (fn:AFn) (b:Code) (q k1:Nat) (s:St):Option (AExit × St):=aCode E (site fn (aRun E q)) (dcall (aRun E q)) k1 1 fn b (cleanS 1 ((firstReg b).bind fn.head) s)
theorem loopO {fn:AFn} {b:Code} {K k:Nat} {s0:St} {r:AExit × St} (S:Nat → St) (N:Nat) (h0:s0=S 0) (step:∀ i,i < N → rndO fn b K K (S i)=some (.normal,S (i + 1))) (last:rndO fn b K K (S N)=some r) (hr:r.1 ≠ .normal) (hk:N < k) :
    aLoop (aCode E (site fn (aRun E K)) (dcall (aRun E K)) K 1 fn b) (cleanS 1 ((firstReg b).bind fn.head)) k s0=some r:=loopR S N h0 step last hr hk
theorem con_of {f:FuncId} {fn:AFn} {args:List AV} {v:AV} {K:Nat} {g:Heap} (h2:E.fn f=some fn) (h3:AV.pureL args=true) (h4:args.length ≤ fn.ntmps) (h5:E.grd f=none) (h6:fn.opn=fun _ => none)
    (h:sealR [] (finA E fn (aCode E (aCall E K) (dcall (aRun E K)) K 1 fn fn.body ⟨frame0 args 0,[]⟩))=some (.ret v,g)) (h1:E.prim f=none:=by rfl):Con E (K + 1) f args v:=by
  refine .of (g:=g) h3 ?_
  rw [aCall_fn h1 h2 h3 h4 h5 h6]
  exact h
theorem con_ofO {f:FuncId} {fn:AFn} {args:List AV} {v:AV} {K:Nat} {g:Heap} (h2:E.fn f=some fn) (h3:AV.pureL args=true) (h4:args.length ≤ fn.ntmps) (h5:E.grd f=none)
    (h:sealR [] (finA E fn (aCode E (site fn (aRun E K)) (dcall (aRun E K)) K 1 fn fn.body ⟨frame0 args 0,[]⟩))=some (.ret v,g)) (h1:E.prim f=none:=by rfl):Con E (K + 1) f args v:=by
  refine .of (g:=g) h3 ?_
  rw [aCall_fnO h1 h2 h3 h4 h5]
  exact h
abbrev bx (cs:List AV):AObj:=⟨cs,true,true,true,1,false⟩
abbrev ec (a:El):List AV:=[.int .u8 a.c,.bool a.k,.int .u32 a.n,.sl a.fb (bs a.b) a.cb,.sl a.fs (El.avs a.s) a.cs]
theorem aLoop_succ {f:St → Option (AExit × St)} {cl:St → St} {k:Nat} {s s':St} (h:f (cl s)=some (.normal,s')):aLoop f cl (k + 1) s=aLoop f cl k s':=by simp only [aLoop,h]
theorem aLoop_end {f:St → Option (AExit × St)} {cl:St → St} {k:Nat} {s:St} {r:AExit × St} (h:f (cl s)=some r) (he:r.1 ≠ .normal):aLoop f cl (k + 1) s=some r:=by
  obtain ⟨e,s'⟩:=r
  simp only [aLoop,h]
  cases e <;> first | rfl | exact absurd rfl he
theorem con_prim {f:FuncId} {p:List AV → Option AV} {args:List AV} {v:AV} (hf:E.prim f=some p) (ha:AV.pureL args=true) (hp:p args=some v) (hv:v.pure=true):Con E 1 f args v:=by
  refine .of (g:=[]) ha ?_
  show sealed (aRun E 1) 0 f args []=_
  unfold sealed
  rw [sealL_of_pure 19 args [] ha]
  simp only [ha,if_true,aRun,hf,hp,Option.bind_some,hv]
  simp only [sealR]
  rw [sealA_of_pure hv]
  simp only [hv,if_true]
end Ab
end
section
open Ab Go TabE
namespace Sp
mutual
def chk:Cr → Int → Int → Int → Int × Int × Int
  | .mk c k n b s,d,m,l =>
    if tagE c k n ≠ 0 then (tagE c k n,m,l)
    else if (k=true ∧ b ≠ []) ∨ (k=false ∧ s ≠ []) then (1,m,l)
    else if 16 < d then (12,m,l)
    else if m=8192 then (3,m,l)
    else chks s (d + 1) (m + 1) (max l d)
def chks:List Cr → Int → Int → Int → Int × Int × Int
  | [],_,m,l => (0,m,l)
  | x :: r,d,m,l => if (chk x d m l).1 ≠ 0 then chk x d m l else chks r d (chk x d m l).2.1 (chk x d m l).2.2
end
theorem chk_eq (e:El) (d m l:Int):chk e.core d m l=if tagE e.c e.k e.n ≠ 0 then (tagE e.c e.k e.n,m,l)
    else if (e.k=true ∧ e.b ≠ []) ∨ (e.k=false ∧ e.s ≠ []) then (1,m,l)
    else if 16 < d then (12,m,l)
    else if m=8192 then (3,m,l)
    else chks (El.cores e.s) (d + 1) (m + 1) (max l d):=by
  rw [El.core_eq,chk]
  have:El.cores e.s ≠ [] ↔ e.s ≠ []:=by rw [El.cores_map]; cases e.s <;> simp
  simp only [this]
end Sp
end
section
open Ab Go TabE
attribute [local simp ↓] s_seq s_reg s_regd s_cond s_block s_cons s_consG
attribute [local simp] s_nil s_loop s_round s_lpn s_lpe s_lpr firstReg s_gt s_gf s_wb s_wu s_val s_valN s_skip s_calls s_callP s_cax lookR flatR pureKs s_ret s_rgx s_sqn s_sqr s_sqe s_cdb s_bkn s_bkr s_bke s_exit s_ret' s_skip' s_finr s_finn s_fin1 s_fix s_clean s_gc0 o_tmp o_int o_bool o_nil o_str o_fn o_nil' l_hit l_miss l_nil ol_nil ol_cons ol_some x_move x_assign x_pick pk_t pk_f x_bin bn_s x_un x_extract x_callF cl_no x_callB x_callBF frzV x_conv cvx convA frame0 binA intOp resL resA results1 sealLW AV.pure AV.pureL keepT x_alloc x_box bxx x_build bdx x_buildSlice bsx x_buildSliceF bsf x_load ldx x_store stx x_slice slx x_fieldAddr x_field x_index ixx x_indexAddr iax x_makeSlice msx x_makeSliceF msf x_nilCheck newK genOf setK lookK fillA writeL writeC readC conts TyI.mk1 sliceA boundsA boundsB fitsA numA indexAddrA fieldAddrA partA fieldA indexA appendA copyA builtinA AV.cells chunk gcH reach keysT keepK inKs AV.keys AV.keysL Ty.isAgg eq1 eqL convA.go ltI w_u8 w_u32 w_u64 w_i64 w_fdiv w_tdiv w_tmod IntKind.bits unA sc_int sc_bool sc_str sc_sl sc_ref sc_ptr sc_pel sc_nilp sc_fn sc_nilf sc_if sc_nili sc_agg sc_tup sc_mem bs_pure bs_kl bs_length bs_cells bs_all sl_row sealRow sealY sl_int sl_bool sl_str sl_sl sl_nilp sl_nilf sl_nili sl_pel sl_agg sl_tup sl_fn sl_if nat_1 bs_cons bs_nil i_beq i_bne x_mkF x_mkI x_tassert x_panic s_pan s_sqp s_bkp s_finp s_fixp s_lpp s_rgp s_retp s_site s_stxN s_stxO x_callT clx
section
open Ab Go TabE Sp
namespace E2
theorem tag_ok (c:Int) (k:Bool) (n:Int):Con E 10 121 [.agg [.int .u8 c,.bool k,.int .u32 n]] (.int .i64 (tagE c k n)):=by
  refine con_of E_fn121 rfl (Nat.le_of_ble_eq_true rfl) rfl rfl (g:=[]) ?_
  rw [body_121,c121]
  unfold tagE
  by_cases h1:3 < c
  · simp [h1]
  by_cases h2:268435455 < n
  · simp [h1,h2]
  by_cases h3:c=0
  · subst h3
    by_cases h4:n=0
    · subst h4; simp []
    by_cases h5:n=16
    · subst h5; cases k <;> simp []
    by_cases h6:n=17
    · subst h6; cases k <;> simp []
    simp [h2,h4,h5,h6]
  · simp [h1,h2,h3]
abbrev HC (m l:Int):Heap:=[((0,0,0),bx [.int .i64 m]),((0,0,1),bx [.int .i64 l])]
abbrev H (m l:Int):Heap:=[((0,0,0),bx [.fn 120 [] [.ptr (0,0,2) 0,.ptr (0,0,3) 0]]),((0,0,1),bx [.fn 152 [] [.ptr (0,0,0) 0,.ptr (0,0,1) 0]]),((0,0,2),bx [.int .i64 m]),((0,0,3),bx [.int .i64 l])]
def vis (c:Int) (k:Bool) (n:Int) (b s:Bool) (d m l:Int):Int × Int × Int :=
  if tagE c k n ≠ 0 then (tagE c k n,m,l)
  else if (k=true ∧ b=false) ∨ (k=false ∧ s=false) then (1,m,l)
  else if 16 < d then (12,m,l)
  else if m=8192 then (3,m,l)
  else (0,m + 1,max l d)
theorem visit (c:Int) (k:Bool) (n:Int) (fb:Bool) (b:List Int) (cb) (fs:Bool) (s:List El) (cs) (d m l:Int) (m0:0 ≤ m) (m1:m ≤ 8192) (l0:0 ≤ l) (lb:b.length ≤ 9223372036854775807) (ls:s.length ≤ 9223372036854775807) :
    aRun E 20 120 [.agg [.int .u8 c,.bool k,.int .u32 n,.sl fb (bs b) cb,.sl fs (El.avs s) cs],.int .i64 d,.ptr (0,0,0) 0,.ptr (0,0,1) 0] (HC m l)=some (.ret (.int .i64 (vis c k n b.isEmpty s.isEmpty d m l).1),HC (vis c k n b.isEmpty s.isEmpty d m l).2.1 (vis c k n b.isEmpty s.isEmpty d m l).2.2):=by
  rw [aRun_fn rfl E_fn120 rfl (Nat.le_of_ble_eq_true rfl),body_120,c120]
  have t:=tag_ok c k n
  have w:=w64' (m + 1) (by omega) (by omega)
  have mx:(if l < d then d else l)=max l d:=by rw [Int.max_def]; split <;> split <;> omega
  have xb:∀ (y:Int) (b:List Int),(0:Int) < (b.length:Int) + 1:=fun y b => by omega
  unfold vis
  by_cases h1:tagE c k n=0
  case neg => simp [t,h1]
  rw [h1] at t ⊢
  have go:((k=true ∧ b.isEmpty=false) ∨ (k=false ∧ s.isEmpty=false)) ∨ ¬ ((k=true ∧ b.isEmpty=false) ∨ (k=false ∧ s.isEmpty=false)):=Classical.em _
  rcases go with (⟨rfl,hb⟩ | ⟨rfl,hs⟩) | h2
  · cases b with
    | nil => simp at hb
    | cons y b => simp [t,El.avs,xb y b]
  · cases s with
    | nil => simp at hs
    | cons x s => simp [t,El.avs,El.avs_len,xb 0 b,(by omega:(0:Int) < (s.length:Int) + 1)]
  · have q:(k=true ∧ b=[]) ∨ (k=false ∧ s=[]):=by
      cases k <;> simp at h2 <;> simp [h2]
    by_cases h3:16 < d
    · rcases q with ⟨rfl,rfl⟩ | ⟨rfl,rfl⟩ <;> simp [t,El.avs,h3]
    by_cases h4:m=8192
    · subst h4; rcases q with ⟨rfl,rfl⟩ | ⟨rfl,rfl⟩ <;> simp [t,El.avs,h3]
    · rcases q with ⟨rfl,rfl⟩ | ⟨rfl,rfl⟩ <;> simp [t,El.avs,h3,h4,w,mx]
end E2
end
section
open Ab Go TabE Sp E2
namespace E3
theorem op_visit {run:RunF} {slot:Nat} {cs:List AV} {d m l r m' l':Int} {own:Heap} (hp:AV.pureL cs=true)
    (hr:run 120 [.agg cs,.int .i64 d,.ptr (0,0,0) 0,.ptr (0,0,1) 0] (HC m l)=some (.ret (.int .i64 r),HC m' l')) :
    opened [false,false,true,true] true run slot 120 [.agg cs,.int .i64 d,.ptr (0,0,2) 0,.ptr (0,0,3) 0] (H m l ++ own)=some (.ret (.int .i64 r),H m' l' ++ own):=by
  have e1:sealM (sealA 20) [false,false,true,true] (H m l ++ own) [.agg cs,.int .i64 d,.ptr (0,0,2) 0,.ptr (0,0,3) 0]=some ([.agg cs,.int .i64 d,.ptr (0,0,2) 0,.ptr (0,0,3) 0],H m l ++ own):=by
    simp [sealM,sl_agg,sl_int,hp]
  have k1:AV.keysL cs=[]:=AV.keysL_pure _ hp
  have r1:∀ φ,AV.rnL φ cs=cs:=fun φ => rnL_pure cs hp
  unfold opened
  rw [e1]
  have e2:AV.keysL [.agg cs,.int .i64 d,.ptr (0,0,2) 0,.ptr (0,0,3) 0]=[(0,0,2),(0,0,3)]:=by simp [AV.keysL,AV.keys,k1]
  simp only [e2]
  have e3:dd (reach (H m l ++ own) 3 [(0,0,2),(0,0,3)])=[(0,0,2),(0,0,3)]:=by rfl
  rw [e3]
  unfold lendA
  have e4:lendH (H m l ++ own) (inK [(0,0,2),(0,0,3)]) [(0,0,2),(0,0,3)]=some (HC m l):=by rfl
  rw [e4]
  simp only [e2]
  rw [if_pos ⟨rfl,rfl⟩]
  have e5:AV.rnL (inK [(0,0,2),(0,0,3)]) [.agg cs,.int .i64 d,.ptr (0,0,2) 0,.ptr (0,0,3) 0]=[.agg cs,.int .i64 d,.ptr (0,0,0) 0,.ptr (0,0,1) 0]:=by simp [AV.rnL,AV.rn,r1]; exact ⟨rfl,rfl⟩
  rw [e5,hr]
  rfl
theorem op_self {run:RunF} {slot:Nat} {cs:List AV} {d m l r m' l':Int} {own:Heap} (hp:AV.pureL cs=true)
    (hr:run 152 [.agg cs,.int .i64 d,.ptr (0,0,0) 0,.ptr (0,0,1) 0] (H m l)=some (.ret (.int .i64 r),H m' l')) :
    opened [false,false,true,true] true run slot 152 [.agg cs,.int .i64 d,.ptr (0,0,0) 0,.ptr (0,0,1) 0] (H m l ++ own)=some (.ret (.int .i64 r),H m' l' ++ own):=by
  have e1:sealM (sealA 20) [false,false,true,true] (H m l ++ own) [.agg cs,.int .i64 d,.ptr (0,0,0) 0,.ptr (0,0,1) 0]=some ([.agg cs,.int .i64 d,.ptr (0,0,0) 0,.ptr (0,0,1) 0],H m l ++ own):=by
    simp [sealM,sl_agg,sl_int,hp]
  have k1:AV.keysL cs=[]:=AV.keysL_pure _ hp
  have r1:∀ φ,AV.rnL φ cs=cs:=fun φ => rnL_pure cs hp
  unfold opened
  rw [e1]
  have e2:AV.keysL [.agg cs,.int .i64 d,.ptr (0,0,0) 0,.ptr (0,0,1) 0]=[(0,0,0),(0,0,1)]:=by simp [AV.keysL,AV.keys,k1]
  simp only [e2]
  have e3:dd (reach (H m l ++ own) 3 [(0,0,0),(0,0,1)])=[(0,0,0),(0,0,1),(0,0,2),(0,0,3)]:=by kernel_rfl
  rw [e3]
  unfold lendA
  have e4:lendH (H m l ++ own) (inK [(0,0,0),(0,0,1),(0,0,2),(0,0,3)]) [(0,0,0),(0,0,1),(0,0,2),(0,0,3)]=some (H m l):=by kernel_rfl
  rw [e4]
  simp only [e2]
  rw [if_pos ⟨by kernel_rfl,by kernel_rfl⟩]
  have e5:AV.rnL (inK [(0,0,0),(0,0,1),(0,0,2),(0,0,3)]) [.agg cs,.int .i64 d,.ptr (0,0,0) 0,.ptr (0,0,1) 0]=[.agg cs,.int .i64 d,.ptr (0,0,0) 0,.ptr (0,0,1) 0]:=by simp [AV.rnL,AV.rn,r1]; exact ⟨by kernel_rfl,by kernel_rfl⟩
  rw [e5,hr]
  show backR [(0,0,0),(0,0,1),(0,0,2),(0,0,3)] slot (H m l ++ own) true (some (.ret (.int .i64 r),H m' l'))=some (.ret (.int .i64 r),H m' l' ++ own)
  kernel_rfl
def b113:Code:=lp c152 0
abbrev S (d:Int) (f:Bool) (s:List El) (c:Option Nat) (i:Nat) (m l:Int):St:=⟨[(1,.int .i64 d),(3,.ptr (0,0,1) 0),(19,.sl f (El.avs s) c),(20,.int .i64 (s.length:Int)),(21,.int .i64 (i:Int))],H m l⟩
theorem go (q k1:Nat) (d:Int) (f s c) (i:Nat) (m l m' l':Int) (x:El) (hx:s[i]? = some x) (ls:s.length ≤ 9223372036854775807) (d0:0 ≤ d) (d1:d < 1000)
    (R:∀ own slot,opened [false,false,true,true] true (aRun E q) slot 152 [.agg (ec x),.int .i64 (d + 1),.ptr (0,0,0) 0,.ptr (0,0,1) 0] (H m l ++ own)=some (.ret (.int .i64 0),H m' l' ++ own)) :
    rndO fn152 b113 q k1 (S d f s c i m l)=some (.normal,S d f s c (i + 1) m' l'):=by
  have hi:i < s.length:=(List.getElem?_eq_some_iff.1 hx).1
  have ix:=El.at_ f c s i x hx
  have w:=w64' ((i:Int) + 1) (by omega) (by omega)
  have w2:=w64' (d + 1) (by omega) (by omega)
  have R':=R [((1,9,0),bx (ec x))] 29
  simp [H] at R'
  simp [b113,lp,lps,c152,-indexAddrA,ix,w,w2,hi,R']
end E3
end
section
open Ab Go TabE Sp E2 E3
namespace E4
theorem bad (q k1:Nat) (d:Int) (f s c) (i:Nat) (m l r m' l':Int) (x:El) (hx:s[i]? = some x) (ls:s.length ≤ 9223372036854775807) (d0:0 ≤ d) (d1:d < 1000) (hr:r ≠ 0)
    (R:∀ own slot,opened [false,false,true,true] true (aRun E q) slot 152 [.agg (ec x),.int .i64 (d + 1),.ptr (0,0,0) 0,.ptr (0,0,1) 0] (H m l ++ own)=some (.ret (.int .i64 r),H m' l' ++ own)) :
    rndO fn152 b113 q k1 (S d f s c i m l)=some (.ret,⟨[(6,.int .i64 r)],H m' l'⟩):=by
  have hi:i < s.length:=(List.getElem?_eq_some_iff.1 hx).1
  have ix:=El.at_ f c s i x hx
  have w2:=w64' (d + 1) (by omega) (by omega)
  have R':=R [((1,9,0),bx (ec x))] 29
  simp [H] at R'
  simp [b113,lp,lps,c152,-indexAddrA,ix,w2,hi,R',hr]
theorem last (q k1:Nat) (d:Int) (f s c) (m l:Int) :
    rndO fn152 b113 q k1 (S d f s c s.length m l)=some (.exit 0,⟨[(1,.int .i64 d),(3,.ptr (0,0,1) 0),(19,.sl f (El.avs s) c),(20,.int .i64 (s.length:Int)),(21,.int .i64 (s.length:Int)),(22,.bool false)],H m l⟩):=by
  simp [b113,lp,lps,c152]
def outc (d:Int) (f:Bool) (s:List El) (c:Option Nat) (p:Int × Int × Int):AExit × St :=
  if p.1=0 then (.exit 0,⟨[(1,.int .i64 d),(3,.ptr (0,0,1) 0),(19,.sl f (El.avs s) c),(20,.int .i64 (s.length:Int)),(21,.int .i64 (s.length:Int)),(22,.bool false)],H p.2.1 p.2.2⟩)
  else (.ret,⟨[(6,.int .i64 p.1)],H p.2.1 p.2.2⟩)
mutual
theorem chk_bd:∀ (c:Cr) (d m l:Int),0 ≤ m → m ≤ 8192 → 0 ≤ l → l ≤ 16 → 0 ≤ (chk c d m l).2.1 ∧ (chk c d m l).2.1 ≤ 8192 ∧ 0 ≤ (chk c d m l).2.2 ∧ (chk c d m l).2.2 ≤ 16
  | .mk c k n b s,d,m,l,h0,h1,h2,h3 => by
    unfold chk
    split
    · exact ⟨h0,h1,h2,h3⟩
    split
    · exact ⟨h0,h1,h2,h3⟩
    split
    · exact ⟨h0,h1,h2,h3⟩
    split
    · exact ⟨h0,h1,h2,h3⟩
    · exact chks_bd s (d + 1) (m + 1) (max l d) (by omega) (by omega) (by omega) (by omega)
theorem chks_bd:∀ (s:List Cr) (d m l:Int),0 ≤ m → m ≤ 8192 → 0 ≤ l → l ≤ 16 → 0 ≤ (chks s d m l).2.1 ∧ (chks s d m l).2.1 ≤ 8192 ∧ 0 ≤ (chks s d m l).2.2 ∧ (chks s d m l).2.2 ≤ 16
  | [],d,m,l,h0,h1,h2,h3 => ⟨h0,h1,h2,h3⟩
  | x :: r,d,m,l,h0,h1,h2,h3 => by
    obtain ⟨a,b,c,e⟩:=chk_bd x d m l h0 h1 h2 h3
    unfold chks
    split
    · exact ⟨a,b,c,e⟩
    · exact chks_bd r d _ _ a b c e
end
def Walks (N:Nat) (x:El):Prop:=∀ k,N ≤ k → ∀ d m l:Int,0 ≤ d → d ≤ 17 → 0 ≤ m → m ≤ 8192 → 0 ≤ l → l ≤ 16 →
  aRun E k 152 [.agg (ec x),.int .i64 d,.ptr (0,0,0) 0,.ptr (0,0,1) 0] (H m l)=some (.ret (.int .i64 (chk x.core d m l).1),H (chk x.core d m l).2.1 (chk x.core d m l).2.2)
theorem loop (K:Nat) (d:Int) (f s c) (ls:s.length ≤ 9223372036854775807) (d0:0 ≤ d) (d1:d ≤ 16) (W:∀ x ∈ s,Walks K x) :
    ∀ (rest:List El) (i:Nat) (m l:Int) (k:Nat),s.drop i=rest → i + rest.length=s.length → 0 ≤ m → m ≤ 8192 → 0 ≤ l → l ≤ 16 → rest.length < k →
      aLoop (aCode E (site fn152 (aRun E K)) (dcall (aRun E K)) K 1 fn152 b113) (cleanS 1 ((firstReg b113).bind fn152.head)) k (S d f s c i m l)=some (outc d f s c (chks (El.cores rest) (d + 1) m l))
  | [],i,m,l,k,h1,h2,m0,m1,l0,l1,hk => by
    obtain ⟨k,rfl⟩:∃ j,k=j + 1:=⟨k - 1,by simp at hk; omega⟩
    obtain rfl:i=s.length:=by simpa using h2
    have:=aLoop_end (k:=k) (last K K d f s c m l) (by simp)
    rw [this]
    simp [El.cores,chks,outc]
  | x :: rest,i,m,l,k,h1,h2,m0,m1,l0,l1,hk => by
    obtain ⟨k,rfl⟩:∃ j,k=j + 1:=⟨k - 1,by simp at hk; omega⟩
    have hx:s[i]? = some x:=by
      have:=congrArg (fun l => l[0]?) h1
      simpa [List.getElem?_drop] using this
    have hd:s.drop (i + 1)=rest:=by
      have:=congrArg List.tail h1
      simpa [List.tail_drop] using this
    have w:=W x (List.mem_of_getElem? hx) K (Nat.le_refl _) (d + 1) m l (by omega) (by omega) m0 m1 l0 l1
    obtain ⟨a,b,c2,e⟩:=chk_bd x.core (d + 1) m l m0 m1 l0 l1
    have R:∀ own slot,opened [false,false,true,true] true (aRun E K) slot 152 [.agg (ec x),.int .i64 (d + 1),.ptr (0,0,0) 0,.ptr (0,0,1) 0] (H m l ++ own)=some (.ret (.int .i64 (chk x.core (d + 1) m l).1),H (chk x.core (d + 1) m l).2.1 (chk x.core (d + 1) m l).2.2 ++ own):=fun own slot => op_self (by rfl) w
    rw [El.cores,chks]
    by_cases hr:(chk x.core (d + 1) m l).1=0
    · rw [if_neg (by simp [hr])]
      rw [hr] at R
      rw [aLoop_succ (go K K d f s c i m l _ _ x hx ls d0 (by omega) R)]
      exact loop K d f s c ls d0 d1 W rest (i + 1) _ _ k hd (by simp at h2; omega) a b c2 e (by simp at hk; omega)
    · rw [if_pos hr]
      rw [aLoop_end (bad K K d f s c i m l _ _ _ x hx ls d0 (by omega) hr R) (by simp)]
      simp [outc,hr]
theorem walks:∀ e:El,e.ok → ∃ N,Walks N e:=by
  refine El.ind fun e ih he => ?_
  obtain ⟨N,hN⟩:=unif (P:=fun (x:El) (n:Nat) => Walks n x) (fun x n m h hm k hk => h k (by omega)) e.s (fun x hx => ih x hx (he.sub x hx))
  refine ⟨N + e.s.length + 40,fun k hk d m l d0 d1 m0 m1 l0 l1 => ?_⟩
  obtain ⟨K,rfl⟩:∃ K,k=K + 1:=⟨k - 1,by omega⟩
  rw [aRun_fn rfl E_fn152 rfl (Nat.le_of_ble_eq_true rfl),body_152,c152]
  have V:∀ own slot,opened [false,false,true,true] true (aRun E K) slot 120 [.agg (ec e),.int .i64 d,.ptr (0,0,2) 0,.ptr (0,0,3) 0] (H m l ++ own)=some (.ret (.int .i64 (vis e.c e.k e.n e.b.isEmpty e.s.isEmpty d m l).1),H (vis e.c e.k e.n e.b.isEmpty e.s.isEmpty d m l).2.1 (vis e.c e.k e.n e.b.isEmpty e.s.isEmpty d m l).2.2 ++ own) :=
    fun own slot => op_visit rfl (aRun_le E 20 K (by omega) _ _ _ _ (visit e.c e.k e.n e.fb e.b e.cb e.fs e.s e.cs d m l m0 m1 l0 he.bl he.sl))
  have V':=V [((1,4,0),bx (ec e))] 14
  simp [H] at V'
  have ln:=El.avs_len e.s
  by_cases hv:(vis e.c e.k e.n e.b.isEmpty e.s.isEmpty d m l).1=0
  · have q:(vis e.c e.k e.n e.b.isEmpty e.s.isEmpty d m l)=(0,m + 1,max l d) ∧ d ≤ 16 ∧ m ≠ 8192 ∧ chk e.core d m l=chks (El.cores e.s) (d + 1) (m + 1) (max l d):=by
      rw [chk_eq]
      unfold vis at hv ⊢
      by_cases h1:tagE e.c e.k e.n=0
      case neg => rw [if_pos h1] at hv; exact absurd hv h1
      rw [if_neg (by simp [h1])] at hv ⊢
      by_cases h2:(e.k=true ∧ e.b.isEmpty=false) ∨ (e.k=false ∧ e.s.isEmpty=false)
      · rw [if_pos h2] at hv; cases hv
      rw [if_neg h2] at hv ⊢
      by_cases h3:16 < d
      · rw [if_pos h3] at hv; cases hv
      rw [if_neg h3] at hv ⊢
      by_cases h4:m=8192
      · rw [if_pos h4] at hv; cases hv
      have h2':¬ ((e.k=true ∧ e.b ≠ []) ∨ (e.k=false ∧ e.s ≠ [])):=by simpa using h2
      exact ⟨by rw [if_neg h4],by omega,h4,by rw [if_neg (by simp [h1]),if_neg h2',if_neg h3,if_neg h4]⟩
    obtain ⟨q1,q2,q3,q4⟩:=q
    rw [q1] at V'
    have L:=loop K d e.fs e.s e.cs he.sl d0 q2 (fun x hx => fun k hk => hN x hx k (by omega)) e.s 0 (m + 1) (max l d) K (by simp) (by simp) (by omega) (by omega) (by omega) (by omega) (by omega)
    rw [← q4] at L
    obtain ⟨p,hp⟩:∃ p,chk e.core d m l=p:=⟨_,rfl⟩
    rw [hp] at L ⊢
    simp [b113,lp,lps,c152,firstReg,S,H] at L
    by_cases hp1:p.1=0
    · simp [outc,hp1,H] at L
      simp [V',ln,L,hp1,H,-s_round]
    · simp [outc,hp1,H] at L
      simp [V',ln,L,hp1,H,-s_round]
  · have q:vis e.c e.k e.n e.b.isEmpty e.s.isEmpty d m l=chk e.core d m l:=by
      rw [chk_eq]
      unfold vis at hv ⊢
      have iff2:((e.k=true ∧ e.b.isEmpty=false) ∨ (e.k=false ∧ e.s.isEmpty=false)) ↔ ((e.k=true ∧ e.b ≠ []) ∨ (e.k=false ∧ e.s ≠ [])):=by simp
      simp only [iff2] at hv ⊢
      split
      · rfl
      rename_i h1; rw [if_neg h1] at hv
      split
      · rfl
      rename_i h2; rw [if_neg h2] at hv
      split
      · rfl
      rename_i h3; rw [if_neg h3] at hv
      split
      · rfl
      rename_i h4; rw [if_neg h4] at hv; exact absurd rfl hv
    rw [q] at V' hv
    obtain ⟨p,hp⟩:∃ p,chk e.core d m l=p:=⟨_,rfl⟩
    rw [hp] at V' hv ⊢
    simp [V',ln,hv,H]
end E4
end
section
open Ab Go TabE Sp E2 E3 E4
namespace E5
abbrev HW (cs:List AV) (m l:Int):Heap:=[((0,0,0),bx [.int .i64 m]),((0,0,1),bx [.int .i64 l]),((1,2,0),bx cs),((1,3,0),bx [.fn 120 [] [.ptr (0,0,0) 0,.ptr (0,0,1) 0]]),((1,5,0),bx [.fn 152 [] [.ptr (1,3,0) 0,.ptr (1,5,0) 0]])]
theorem op_first {run:RunF} {slot:Nat} {cs ds:List AV} {d m l r m' l':Int} (hp:AV.pureL cs=true)
    (hr:run 152 [.agg cs,.int .i64 d,.ptr (0,0,0) 0,.ptr (0,0,1) 0] (H m l)=some (.ret (.int .i64 r),H m' l')) :
    opened [false,false,true,true] true run slot 152 [.agg cs,.int .i64 d,.ptr (1,3,0) 0,.ptr (1,5,0) 0] (HW ds m l)=some (.ret (.int .i64 r),HW ds m' l'):=by
  have e1:sealM (sealA 20) [false,false,true,true] (HW ds m l) [.agg cs,.int .i64 d,.ptr (1,3,0) 0,.ptr (1,5,0) 0]=some ([.agg cs,.int .i64 d,.ptr (1,3,0) 0,.ptr (1,5,0) 0],HW ds m l):=by
    simp [sealM,sl_agg,sl_int,hp]
  have k1:AV.keysL cs=[]:=AV.keysL_pure _ hp
  have r1:∀ φ,AV.rnL φ cs=cs:=fun φ => rnL_pure cs hp
  unfold opened
  rw [e1]
  have e2:AV.keysL [.agg cs,.int .i64 d,.ptr (1,3,0) 0,.ptr (1,5,0) 0]=[(1,3,0),(1,5,0)]:=by simp [AV.keysL,AV.keys,k1]
  simp only [e2]
  have e3:dd (reach (HW ds m l) 3 [(1,3,0),(1,5,0)])=[(1,3,0),(1,5,0),(0,0,0),(0,0,1)]:=by kernel_rfl
  rw [e3]
  unfold lendA
  have e4:lendH (HW ds m l) (inK [(1,3,0),(1,5,0),(0,0,0),(0,0,1)]) [(1,3,0),(1,5,0),(0,0,0),(0,0,1)]=some (H m l):=by kernel_rfl
  rw [e4]
  simp only [e2]
  rw [if_pos ⟨by kernel_rfl,by kernel_rfl⟩]
  have e5:AV.rnL (inK [(1,3,0),(1,5,0),(0,0,0),(0,0,1)]) [.agg cs,.int .i64 d,.ptr (1,3,0) 0,.ptr (1,5,0) 0]=[.agg cs,.int .i64 d,.ptr (0,0,0) 0,.ptr (0,0,1) 0]:=by simp [AV.rnL,AV.rn,r1]; exact ⟨by kernel_rfl,by kernel_rfl⟩
  rw [e5,hr]
  show backR [(1,3,0),(1,5,0),(0,0,0),(0,0,1)] slot (HW ds m l) true (some (.ret (.int .i64 r),H m' l'))=some (.ret (.int .i64 r),HW ds m' l')
  kernel_rfl
theorem walk (e:El) (he:e.ok):∃ N,∀ k,N ≤ k → ∀ m l:Int,0 ≤ m → m ≤ 8192 → 0 ≤ l → l ≤ 16 →
    aRun E k 119 [.agg (ec e),.fn 120 [] [.ptr (0,0,0) 0,.ptr (0,0,1) 0]] (HC m l)=some (.ret (.int .i64 (chk e.core 1 m l).1),HC (chk e.core 1 m l).2.1 (chk e.core 1 m l).2.2):=by
  obtain ⟨N,hN⟩:=walks e he
  refine ⟨N + 20,fun k hk m l m0 m1 l0 l1 => ?_⟩
  obtain ⟨K,rfl⟩:∃ K,k=K + 1:=⟨k - 1,by omega⟩
  rw [aRun_fn rfl E_fn119 rfl (Nat.le_of_ble_eq_true rfl),body_119,c119]
  have V:=fun ds slot => op_first (slot:=slot) (ds:=ds) rfl (hN K (by omega) 1 m l (by omega) (by omega) m0 m1 l0 l1)
  obtain ⟨p,hp⟩:∃ p,chk e.core 1 m l=p:=⟨_,rfl⟩
  rw [hp] at V ⊢
  simp [HW] at V
  simp [V,HC]
theorem op_walk {run:RunF} {slot:Nat} {cs ds:List AV} {r m' l':Int} (hp:AV.pureL cs=true)
    (hr:run 119 [.agg cs,.fn 120 [] [.ptr (0,0,0) 0,.ptr (0,0,1) 0]] (HC 0 0)=some (.ret (.int .i64 r),HC m' l')) :
    opened [false,true] true run slot 119 [.agg cs,.fn 120 [] [.ptr (1,3,0) 0,.ptr (1,4,0) 0]] [((1,1,0),bx ds),((1,3,0),bx [.int .i64 0]),((1,4,0),bx [.int .i64 0])]=some (.ret (.int .i64 r),[((1,1,0),bx ds),((1,3,0),bx [.int .i64 m']),((1,4,0),bx [.int .i64 l'])]):=by
  obtain ⟨h,hh⟩:∃ h:Heap,[((1,1,0),bx ds),((1,3,0),bx [.int .i64 0]),((1,4,0),bx [.int .i64 0])]=h:=⟨_,rfl⟩
  have e1:sealM (sealA 20) [false,true] h [.agg cs,.fn 120 [] [.ptr (1,3,0) 0,.ptr (1,4,0) 0]]=some ([.agg cs,.fn 120 [] [.ptr (1,3,0) 0,.ptr (1,4,0) 0]],h):=by
    simp [sealM,sl_agg,sl_int,hp]
  have k1:AV.keysL cs=[]:=AV.keysL_pure _ hp
  have r1:∀ φ,AV.rnL φ cs=cs:=fun φ => rnL_pure cs hp
  rw [hh]
  unfold opened
  rw [e1]
  have e2:AV.keysL [.agg cs,.fn 120 [] [.ptr (1,3,0) 0,.ptr (1,4,0) 0]]=[(1,3,0),(1,4,0)]:=by simp [AV.keysL,AV.keys,k1]
  simp only [e2]
  subst hh
  have e3:dd (reach [((1,1,0),bx ds),((1,3,0),bx [.int .i64 0]),((1,4,0),bx [.int .i64 0])] 3 [(1,3,0),(1,4,0)])=[(1,3,0),(1,4,0)]:=by kernel_rfl
  rw [e3]
  unfold lendA
  have e4:lendH [((1,1,0),bx ds),((1,3,0),bx [.int .i64 0]),((1,4,0),bx [.int .i64 0])] (inK [(1,3,0),(1,4,0)]) [(1,3,0),(1,4,0)]=some (HC 0 0):=by kernel_rfl
  rw [e4]
  simp only [e2]
  rw [if_pos ⟨by kernel_rfl,by kernel_rfl⟩]
  have e5:AV.rnL (inK [(1,3,0),(1,4,0)]) [.agg cs,.fn 120 [] [.ptr (1,3,0) 0,.ptr (1,4,0) 0]]=[.agg cs,.fn 120 [] [.ptr (0,0,0) 0,.ptr (0,0,1) 0]]:=by simp [AV.rnL,AV.rn,r1]; exact ⟨by kernel_rfl,by kernel_rfl⟩
  rw [e5,hr]
  show backR [(1,3,0),(1,4,0)] slot [((1,1,0),bx ds),((1,3,0),bx [.int .i64 0]),((1,4,0),bx [.int .i64 0])] true (some (.ret (.int .i64 r),HC m' l'))=some (.ret (.int .i64 r),[((1,1,0),bx ds),((1,3,0),bx [.int .i64 m']),((1,4,0),bx [.int .i64 l'])])
  kernel_rfl
def meas (e:El):Int × Int × Int:=if (chk e.core 1 0 0).1=0 then chk e.core 1 0 0 else ((chk e.core 1 0 0).1,0,0)
theorem measure (e:El) (he:e.ok):∃ N,Con E N 73 [e.av] (.tup [.int .i64 (meas e).1,.int .i64 (meas e).2.1,.int .i64 (meas e).2.2]):=by
  obtain ⟨N,hN⟩:=walk e he
  refine ⟨N + 20 + 1,con_ofO E_fn73 (by simp [AV.pureL,El.av_pure]) (Nat.le_of_ble_eq_true rfl) rfl (g:=[]) ?_⟩
  rw [body_73,c73]
  have V:=fun ds slot => op_walk (slot:=slot) (ds:=ds) rfl (hN (N + 20) (by omega) 0 0 (by omega) (by omega) (by omega) (by omega))
  unfold meas
  obtain ⟨p,hp⟩:∃ p,chk e.core 1 0 0=p:=⟨_,rfl⟩
  rw [hp] at V ⊢
  by_cases h:p.1=0
  · simp [El.av_eq,V,h,↓s_regD,s_dyn0,s_rgy,barOf,dynChk,footL,dynOK,disjK,keysOp,opVals,Op.operands]
  · simp [El.av_eq,V,h,↓s_regD,s_dyn0,s_rgy,barOf,dynChk,footL,dynOK,disjK,keysOp,opVals,Op.operands]
end E5
end
end
section
open Ab Go TabE
namespace Sp
def lenO (n:Int):List Int:=if n ≤ 127 then [n] else if n ≤ 255 then [129,n] else if n ≤ 65535 then [130,n / 256,n % 256] else [131,n / 65536,n / 256 % 256,n % 256]
mutual
def enc:Cr → List Int
  | .mk c k n b s => TG.tagO c k n ++ (lenO ((b ++ encs s).length:Int) ++ (b ++ encs s))
def encs:List Cr → List Int
  | [] => []
  | x :: r => enc x ++ encs r
end
mutual
def vld:Cr → Prop
  | .mk c k n b s => tagE c k n=0 ∧ (k=true → b=[]) ∧ (k=false → s=[]) ∧ vlds s
def vlds:List Cr → Prop
  | [] => True
  | x :: r => vld x ∧ vlds r
end
mutual
theorem vld_of:∀ (c:Cr) (d m l:Int),(chk c d m l).1=0 → vld c
  | .mk c k n b s,d,m,l,h => by
    unfold chk at h
    unfold vld
    by_cases h1:tagE c k n=0
    case neg => rw [if_pos h1] at h; exact absurd h h1
    rw [if_neg (by simp [h1])] at h
    by_cases h2:(k=true ∧ b ≠ []) ∨ (k=false ∧ s ≠ [])
    · rw [if_pos h2] at h; cases h
    rw [if_neg h2] at h
    by_cases h3:16 < d
    · rw [if_pos h3] at h; cases h
    rw [if_neg h3] at h
    by_cases h4:m=8192
    · rw [if_pos h4] at h; cases h
    rw [if_neg h4] at h
    refine ⟨h1,fun e => ?_,fun e => ?_,vlds_of s _ _ _ h⟩
    · exact Classical.byContradiction fun q => h2 (.inl ⟨e,q⟩)
    · exact Classical.byContradiction fun q => h2 (.inr ⟨e,q⟩)
theorem vlds_of:∀ (s:List Cr) (d m l:Int),(chks s d m l).1=0 → vlds s
  | [],_,_,_,_ => trivial
  | x :: r,d,m,l,h => by
    unfold chks at h
    unfold vlds
    by_cases h1:(chk x d m l).1=0
    · rw [if_neg (by simp [h1])] at h
      exact ⟨vld_of x d m l h1,vlds_of r _ _ _ h⟩
    · rw [if_pos h1] at h; exact absurd h h1
end
theorem enc_eq (e:El):enc e.core=TG.tagO e.c e.k e.n ++ (lenO ((e.b ++ encs (El.cores e.s)).length:Int) ++ (e.b ++ encs (El.cores e.s))):=by rw [El.core_eq,enc]
theorem vld_eq (e:El):vld e.core ↔ tagE e.c e.k e.n=0 ∧ (e.k=true → e.b=[]) ∧ (e.k=false → e.s=[]) ∧ vlds (El.cores e.s):=by
  rw [El.core_eq,vld]
  have:El.cores e.s=[] ↔ e.s=[]:=by rw [El.cores_map]; cases e.s <;> simp
  rw [this]
theorem vlds_all:∀ {l:List El},vlds (El.cores l) ↔ ∀ x ∈ l,vld x.core
  | [] => by simp [El.cores,vlds]
  | e :: r => by rw [El.cores,vlds,vlds_all (l:=r)]; simp
theorem tagO_len (c k n):1 ≤ (TG.tagO c k n).length ∧ (TG.tagO c k n).length ≤ 5:=by
  have g:(TG.grp n).length ≤ 4:=by unfold TG.grp; split <;> simp
  unfold TG.tagO
  by_cases h:n < 31
  · rw [if_pos h]; simp
  · rw [if_neg h]; simp [g]
theorem lenO_len (n):1 ≤ (lenO n).length ∧ (lenO n).length ≤ 4:=by unfold lenO; split <;> (try split) <;> (try split) <;> simp
end Sp
namespace Ab
namespace El
mutual
def sm:El → Prop
  | mk _ _ _ _ b _ _ s _ => b.length ≤ 1000000000 ∧ s.length ≤ 1000000000 ∧ sms s
def sms:List El → Prop
  | [] => True
  | e :: r => sm e ∧ sms r
end
theorem sms_all:∀ {l},sms l ↔ ∀ x ∈ l,sm x
  | [] => by simp [sms]
  | e :: r => by rw [sms,sms_all (l:=r)]; simp
theorem sm_eq (e:El):e.sm ↔ e.b.length ≤ 1000000000 ∧ e.s.length ≤ 1000000000 ∧ ∀ x ∈ e.s,x.sm:=by
  cases e; rw [sm,sms_all]; rfl
end El
end Ab
end
