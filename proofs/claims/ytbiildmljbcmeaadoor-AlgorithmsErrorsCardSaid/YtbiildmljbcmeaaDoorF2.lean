/- Own work, no conditions. -/
import Derived.Test.YtbiildmljbcmeaaDoorSq
import Derived.Test.YtbiildmljbcmeaaDoorB40e
import Derived.Test.YtbiildmljbcmeaaDoorSr
set_option maxRecDepth 20000
set_option linter.unusedSimpArgs false
set_option linter.unusedVariables false
set_option maxHeartbeats 16000000
section
open Ab Go TabE Sp
namespace E20
def tn (c k n:Int):Int:=if tagE (c % 4) (decide (k % 2=1)) (n % 268435456)=0 then n % 268435456 else 4
theorem tn_b (c k n:Int) (hn:0 ≤ n):0 ≤ tn c k n ∧ tn c k n ≤ 268435455:=by unfold tn; split <;> omega
theorem tn_ok (c k n:Int) (hc:0 ≤ c) (hn:0 ≤ n):tagE (c % 4) (decide (k % 2=1)) (tn c k n)=0:=by
  unfold tn
  split
  · assumption
  · unfold tagE
    rw [if_neg (by omega),if_neg (by simp)]
end E20
end
section
open Ab Go TabE
namespace Ab
namespace El
def fl:List El → List AV
  | [] => []
  | e :: r => ec e ++ fl r
theorem fl_app:∀ a b,fl (a ++ b)=fl a ++ fl b
  | [],b => rfl
  | e :: a,b => by simp only [List.cons_append,fl,fl_app a b,List.append_assoc]
theorem fl_mk1 (c k n fb b cb fs s cs):fl [El.mk c k n fb b cb fs s cs]=[.int .u8 c,.bool k,.int .u32 n,.sl fb (bs b) cb,.sl fs (avs s) cs]:=rfl
theorem fl_mkS (a:List El) (c k n fb b cb fs s cs):fl (a ++ [El.mk c k n fb b cb fs s cs])=fl a ++ [.int .u8 c,.bool k,.int .u32 n,.sl fb (bs b) cb,.sl fs (avs s) cs]:=by rw [fl_app]; rfl
theorem chk_bs (y:List Int):chunk false 1 y.length (bs y)=bs y:=by
  have:=chunk_one (bs y)
  rwa [bs_len] at this
theorem fl_len:∀ l,(fl l).length=l.length * 5
  | [] => rfl
  | e :: r => by simp only [fl,List.length_append,fl_len r,List.length_cons,ec]; simp; omega
theorem fl_pure:∀ l,AV.pureL (fl l)=true
  | [] => rfl
  | e :: r => by simp only [fl,ec,List.cons_append,List.nil_append,AV.pureL,AV.pure,Bool.and_self,fl_pure r]
theorem fl_keys (l):AV.keysL (fl l)=[]:=AV.keysL_pure _ (fl_pure l)
theorem keysL_app:∀ a b:List AV,AV.keysL (a ++ b)=AV.keysL a ++ AV.keysL b
  | [],b => rfl
  | x :: a,b => by simp only [List.cons_append,AV.keysL,keysL_app a b,List.append_assoc]
theorem fl_keysr (l) (r:List AV):AV.keysL (fl l ++ r)=AV.keysL r:=by rw [keysL_app,fl_keys]; rfl
theorem fl_drop:∀ (k:Nat) (l:List El),(fl l).drop (k * 5)=fl (l.drop k)
  | 0,l => by simp
  | k + 1,[] => by simp [fl]
  | k + 1,e :: r => by
    have:(k + 1) * 5=k * 5 + 5:=by omega
    rw [List.drop_succ_cons,← fl_drop k r,this,fl]
    rfl
theorem fl_take:∀ (k:Nat) (l:List El),(fl l).take (k * 5)=fl (l.take k)
  | 0,l => by simp [fl]
  | k + 1,[] => by simp [fl]
  | k + 1,e :: r => by
    have:(k + 1) * 5=k * 5 + 5:=by omega
    rw [List.take_succ_cons]
    show (ec e ++ fl r).take _=ec e ++ fl (r.take k)
    rw [← fl_take k r,this]
    rfl
theorem fl_chunk:∀ (l:List El),chunk true 5 l.length (fl l)=avs l
  | [] => rfl
  | e :: r => by
    rw [List.length_cons,chunk,avs,av_eq,← fl_chunk r]
    rfl
theorem fl_scal:∀ l,(fl l).all AV.scal=true
  | [] => rfl
  | e :: r => by rw [fl,List.all_append,fl_scal r]; rfl
end El
end Ab
end
section
open Ab Go TabE Sp E20
namespace E22
structure G where
  a:Int
  b:Int
  c:Int
  k:Int
  n:Int
  f:Bool
  x:List Int
  q:Option Nat
def G.av (g:G):AV:=.agg [.int .u8 g.a,.int .u8 g.b,.int .u8 g.c,.int .u8 g.k,.int .u32 g.n,.sl g.f (bs g.x) g.q]
def G.ok (g:G):Prop:=(0 ≤ g.a ∧ g.a < 256) ∧ (0 ≤ g.b ∧ g.b < 256) ∧ (0 ≤ g.c ∧ g.c < 256) ∧ (0 ≤ g.k ∧ g.k < 256) ∧ (0 ≤ g.n ∧ g.n < 4294967296) ∧ isB g.x ∧ g.x.length ≤ 9223372036854775807
def leaf (g:G):El:=.mk (g.c % 4) false (tn g.c 0 g.n) (decide (g.x=[])) (g.x.take 20) (if g.x=[] then some 0 else none) true [] (some 0)
end E22
end
section
open Ab Go TabE Sp E20 E22
namespace E23
abbrev nd (g:G) (d:List El):El:=.mk (g.c % 4) true (tn g.c 1 g.n) true [] (some 0) (decide (d=[])) d (if d=[] then some 0 else none)
def kk (g:G) (n:Nat):Nat:=if g.a % 3=2 then n else min (g.b % 5).toNat n
end E23
end
section
open Ab Go TabE Sp E18 E20 E22 E23
namespace Sp
mutual
theorem chk_of:∀ (c:Cr) (d m l:Int),vld c → d + dep c ≤ 17 → m + cnt c ≤ 8192 → (chk c d m l).1=0
  | .mk c k n b s,d,m,l,hv,hd,hm => by
    unfold vld at hv
    unfold dep at hd
    unfold cnt at hm
    obtain ⟨h1,h2,h3,h4⟩:=hv
    have:=deps_pos s
    have:=cnts_pos s
    unfold chk
    rw [if_neg (by simp [h1]),if_neg (by
      intro h
      rcases h with ⟨a,b⟩ | ⟨a,b⟩
      · exact b (h2 a)
      · exact b (h3 a)),if_neg (by omega),if_neg (by omega)]
    exact chks_of s (d + 1) (m + 1) (max l d) h4 (by omega) (by omega)
theorem chks_of:∀ (s:List Cr) (d m l:Int),vlds s → d + deps s ≤ 17 → m + cnts s ≤ 8192 → (chks s d m l).1=0
  | [],_,_,_,_,_,_ => rfl
  | x :: r,d,m,l,hv,hd,hm => by
    unfold vlds at hv
    unfold deps at hd
    unfold cnts at hm
    have:=deps_pos r
    have:=cnts_pos r
    have a:=chk_of x d m l hv.1 (by omega) (by omega)
    unfold chks
    rw [if_neg (by simp [a])]
    have b:=(chk_dep x d m l a).2.1
    exact chks_of r d _ _ hv.2 (by omega) (by rw [b]; omega)
end
theorem cnts_app (a b:List El):cnts (El.cores (a ++ b))=cnts (El.cores a) + cnts (El.cores b):=by
  induction a with
  | nil => simp [El.cores,cnts]
  | cons x a ih => simp only [List.cons_append,El.cores,cnts,ih]; omega
theorem cnts_len:∀ a:List El,(a.length:Int) ≤ cnts (El.cores a)
  | [] => by simp [El.cores,cnts]
  | x :: a => by
    rw [El.cores,cnts,List.length_cons]
    have:=cnt_pos x.core
    have:=cnts_len a
    omega
theorem deps_le {m:Int} (h0:0 ≤ m):∀ a:List El,(∀ x ∈ a,dep x.core ≤ m) → deps (El.cores a) ≤ m
  | [],_ => by simp [El.cores,deps]; exact h0
  | x :: a,h => by
    rw [El.cores,deps]
    have:=h x (List.mem_cons_self ..)
    have:=deps_le h0 a fun y hy => h y (List.mem_cons_of_mem _ hy)
    omega
end Sp
namespace E26
def nx (st:List El) (g:G):List El:=if g.a % 3=0 then st ++ [leaf g] else if dep (nd g (st.drop (st.length - kk g st.length))).core < 15 then st.take (st.length - kk g st.length) ++ [nd g (st.drop (st.length - kk g st.length))] else st
def sq (l:List G):Nat → List El
  | 0 => []
  | i + 1 => match l[i]? with
    | some g => nx (sq l i) g
    | none => sq l i
structure W (x:El):Prop where
  ok:x.ok
  vld:vld x.core
  dep:dep x.core ≤ 14
  fw:Fw 20 x
theorem leaf_dep (g:G):dep (leaf g).core=1:=rfl
theorem leaf_W (g:G) (hg:g.ok):W (leaf g):=by
  obtain ⟨h1,h2,h3,h4,h5,h6,h7⟩:=hg
  have t:=tn_b g.c 0 g.n h5.1
  refine ⟨(El.ok_eq _).2 ⟨by simp only [leaf,El.c]; omega,by simp only [leaf,El.n]; omega,fun x hx => h6 x (List.mem_of_mem_take hx),by simp only [leaf,El.b,List.length_take]; omega,by simp [leaf,El.s],fun x hx => by cases hx⟩,?_,by rw [leaf_dep]; omega,.mk _ (by simp only [leaf,El.b,List.length_take]; omega) fun x hx => by cases hx⟩
  rw [vld_eq]
  have q:=tn_ok g.c 0 g.n h3.1 h5.1
  refine ⟨by simpa [leaf,El.c,El.k,El.n] using q,fun h => (by cases h),fun _ => rfl,trivial⟩
theorem nd_W (g:G) (hg:g.ok) (d:List El) (hd:∀ x ∈ d,W x) (hl:d.length ≤ 1000):(nd g d).ok ∧ vld (nd g d).core ∧ Fw 20 (nd g d) ∧ dep (nd g d).core ≤ 15 ∧ cnt (nd g d).core=1 + cnts (El.cores d):=by
  obtain ⟨h1,h2,h3,h4,h5,h6,h7⟩:=hg
  have t:=tn_b g.c 1 g.n h5.1
  refine ⟨(El.ok_eq _).2 ⟨by simp only [El.c]; omega,by simp only [El.n]; omega,isB_nil,by simp [El.b],by simp only [El.s]; omega,fun x hx => (hd x hx).ok⟩,?_,.mk _ (by simp [El.b]) fun x hx => (hd x hx).fw,?_,by rw [cnt_eq]; rfl⟩
  · rw [vld_eq]
    have q:=tn_ok g.c 1 g.n h3.1 h5.1
    exact ⟨by simpa [El.c,El.k,El.n] using q,fun _ => rfl,fun h => (by cases h),vlds_all.2 fun x hx => (hd x hx).vld⟩
  · rw [dep_eq]
    have:=deps_le (m:=14) (by omega) d fun x hx => (hd x hx).dep
    show deps (El.cores d) + 1 ≤ 15
    omega
theorem inv (l:List G) (hl:∀ g ∈ l,g.ok):∀ i,i ≤ 1000 → cnts (El.cores (sq l i)) ≤ i ∧ ∀ x ∈ sq l i,W x
  | 0,_ => ⟨by simp [sq,El.cores,cnts],fun x h => by simp [sq] at h⟩
  | i + 1,hi => by
    obtain ⟨h1,h2⟩:=inv l hl i (by omega)
    unfold sq
    cases hg:l[i]? with
    | none => exact ⟨by simp only []; omega,h2⟩
    | some g =>
      have og:=hl g (List.mem_of_getElem? hg)
      simp only []
      unfold nx
      by_cases ha:g.a % 3=0
      · rw [if_pos ha]
        refine ⟨?_,fun x hx => ?_⟩
        · rw [cnts_app]
          have:cnts (El.cores [leaf g])=1:=rfl
          omega
        · rcases List.mem_append.1 hx with h | h
          · exact h2 x h
          · obtain rfl:=List.mem_singleton.1 h
            exact leaf_W g og
      · rw [if_neg ha]
        generalize hp:(sq l i).length - kk g (sq l i).length=p
        have ln:=cnts_len (sq l i)
        have hw:=nd_W g og ((sq l i).drop p) (fun x hx => h2 x (List.mem_of_mem_drop hx)) (by rw [List.length_drop]; omega)
        by_cases hd:dep (nd g ((sq l i).drop p)).core < 15
        · rw [if_pos hd]
          have sp:cnts (El.cores (sq l i))=cnts (El.cores ((sq l i).take p)) + cnts (El.cores ((sq l i).drop p)):=by rw [← cnts_app,List.take_append_drop]
          refine ⟨?_,fun x hx => ?_⟩
          · rw [cnts_app]
            have:cnts (El.cores [nd g ((sq l i).drop p)])=1 + cnts (El.cores ((sq l i).drop p)):=by rw [El.cores,cnts,hw.2.2.2.2]; simp [El.cores,cnts]
            omega
          · rcases List.mem_append.1 hx with h | h
            · exact h2 x (List.mem_of_mem_take h)
            · obtain rfl:=List.mem_singleton.1 h
              exact ⟨hw.1,hw.2.1,by omega,hw.2.2.1⟩
        · rw [if_neg hd]
          exact ⟨by omega,h2⟩
def top (st:List El):El:=match st with
  | [x] => x
  | _ => .mk 0 true 16 true [] (some 0) (decide (st=[])) st (if st=[] then some 0 else none)
def ofE (l:List G):El:=top (sq l (min 39 l.length))
structure Good (x:El):Prop where
  ok:x.ok
  vld:vld x.core
  dep:dep x.core ≤ 15
  fw:Fw 20 x
  cnt:cnt x.core ≤ 40
theorem good (l:List G) (hl:∀ g ∈ l,g.ok):Good (ofE l):=by
  obtain ⟨h1,h2⟩:=inv l hl (min 39 l.length) (by omega)
  have ln:=cnts_len (sq l (min 39 l.length))
  unfold ofE
  generalize sq l (min 39 l.length)=st at h1 h2 ln
  unfold top
  split
  · rename_i x
    have w:=h2 x (by simp)
    exact ⟨w.ok,w.vld,by have:=w.dep; omega,w.fw,by simp [El.cores,cnts] at h1; omega⟩
  · refine ⟨(El.ok_eq _).2 ⟨by simp [El.c],by simp [El.n],isB_nil,by simp [El.b],by simp only [El.s]; omega,fun x hx => (h2 x hx).ok⟩,?_,?_,.mk _ (by simp [El.b]) fun x hx => (h2 x hx).fw,?_⟩
    · rw [vld_eq]
      exact ⟨rfl,fun _ => rfl,fun h => (by cases h),vlds_all.2 fun x hx => (h2 x hx).vld⟩
    · rw [dep_eq]
      have:=deps_le (m:=14) (by omega) st fun x hx => (h2 x hx).dep
      show deps (El.cores st) + 1 ≤ 15
      omega
    · rw [cnt_eq]
      show 1 + cnts (El.cores st) ≤ 40
      omega
theorem Good.chk {x:El} (h:Good x):(chk x.core 1 0 0).1=0:=chk_of _ _ _ _ h.vld (by have:=h.dep; omega) (by have:=h.cnt; omega)
theorem Good.sm {x:El} (h:Good x):x.sm:=fw_sm (by omega) x h.fw (by have:=h.cnt; omega)
theorem Good.len {x:El} (h:Good x):(enc x.core).length ≤ 1160:=by
  have:=fw_len x h.fw
  have:=h.cnt
  omega
end E26
end
section
open Ab Go TabE
attribute [local simp ↓] s_seq s_reg s_regd s_cond s_block s_cons s_consG
attribute [local simp] s_nil s_loop s_round s_lpn s_lpe s_lpr firstReg s_gt s_gf s_wb s_wu s_val s_valN s_skip s_calls s_callP s_cax lookR flatR pureKs s_ret s_rgx s_sqn s_sqr s_sqe s_cdb s_bkn s_bkr s_bke s_exit s_ret' s_skip' s_finr s_finn s_fin1 s_fix s_clean s_gc0 o_tmp o_int o_bool o_nil o_str o_fn o_nil' l_hit l_miss l_nil ol_nil ol_cons ol_some x_move x_assign x_pick pk_t pk_f x_bin bn_s x_un x_extract x_callF cl_no x_callB x_callBF frzV x_conv cvx convA frame0 binA intOp resL resA results1 sealLW AV.pure AV.pureL keepT x_alloc x_box bxx x_build bdx x_buildSlice bsx x_buildSliceF bsf x_load ldx x_store stx x_slice slx x_fieldAddr x_field x_index ixx x_indexAddr iax x_makeSlice msx x_makeSliceF msf x_nilCheck newK genOf setK lookK fillA writeL writeC readC conts TyI.mk1 sliceA boundsA boundsB fitsA numA indexAddrA fieldAddrA partA fieldA indexA appendA copyA builtinA AV.cells chunk gcH reach keysT keepK inKs AV.keys AV.keysL Ty.isAgg eq1 eqL convA.go ltI w_u8 w_u32 w_u64 w_i64 w_fdiv w_tdiv w_tmod IntKind.bits unA sc_int sc_bool sc_str sc_sl sc_ref sc_ptr sc_pel sc_nilp sc_fn sc_nilf sc_if sc_nili sc_agg sc_tup sc_mem bs_pure bs_kl bs_length bs_cells bs_all sl_row sealRow sealY sl_int sl_bool sl_str sl_sl sl_nilp sl_nilf sl_nili sl_pel sl_agg sl_tup sl_fn sl_if nat_1 bs_cons bs_nil i_beq i_bne x_mkF x_mkI x_tassert x_panic s_pan s_sqp s_bkp s_finp s_fixp s_lpp s_rgp s_retp s_site s_stxN s_stxO x_callT clx El.avs_len
section
open Ab Go TabE Sp
namespace E31
inductive Nn:El → Prop
  | mk (e:El):(e.fb=true → e.b=[]) → (e.fs=true → e.s=[]) → (∀ x ∈ e.s,Nn x) → Nn e
end E31
end
end
section
open Ab Go TabE Sp E31
namespace E32
theorem fl_set (r:List El) (i:Nat) (y:El) (h:i < r.length):El.fl (r.set i y)=El.fl (r.take i) ++ .int .u8 y.c :: .bool y.k :: .int .u32 y.n :: .sl y.fb (bs y.b) y.cb :: .sl y.fs (El.avs y.s) y.cs :: El.fl (r.drop (i + 1)):=by
  rw [List.set_eq_take_append_cons_drop,if_pos h,El.fl_app]
  rfl
abbrev z0:El:=.mk 0 false 0 true [] (some 0) true [] (some 0)
theorem fl_rep:∀ n,(List.replicate n [AV.int .u8 0,.bool false,.int .u32 0,.sl true [] (some 0),.sl true [] (some 0)]).flatten=El.fl (List.replicate n z0)
  | 0 => rfl
  | n + 1 => by rw [List.replicate_succ,List.replicate_succ,List.flatten_cons,fl_rep n]; rfl
theorem sealX_fl (n:Nat) (h:Heap) (key:Key) (st:List El) (cap:Option Nat) (mt ex:Bool) (hk:lookK h key=some ⟨El.fl st,true,mt,ex,5,true⟩):sealX (n + 2) h (.ref key 0 st.length cap)=some (.sl false (El.avs st) cap,setK h key ⟨El.fl st,true,false,ex,5,true⟩):=by
  unfold sealX sealA
  have hp:(AV.ref key 0 st.length cap).pure=false:=rfl
  have f3:(El.fl st).take (st.length * 5)=El.fl st:=by rw [El.fl_take,List.take_length]
  simp only [hp,Bool.false_eq_true,if_false,hk]
  rw [if_pos ⟨trivial,by rw [El.fl_len]; omega,by simp⟩]
  simp only [List.drop_zero,f3]
  rw [sealL_of_pure n _ _ (El.fl_pure st)]
  simp only [El.fl_chunk]
end E32
end
section
open Ab Go TabE Sp E31 E32
namespace E33
inductive Sh:El → Prop
  | mk (e:El):e.b.length ≤ 1000000 → e.s.length ≤ 1000000 → (∀ x ∈ e.s,Sh x) → Sh e
end E33
end
section
open Ab Go TabE Sp E31 E32 E33
namespace E34
abbrev ns (ps:List Int):List AV:=ps.map (AV.int .i64)
theorem int_at (f c) (ps:List Int) (i:Nat) (p:Int) (h:ps[i]? = some p):∀ hp,indexAddrA E 38 (.sl f (ns ps) c) (.int .i64 i) hp=some (.pel [.int .i64 p]):=by
  intro hp
  have hi:i < ps.length:=(List.getElem?_eq_some_iff.1 h).1
  unfold indexAddrA
  simp only [E_ty38,E_ty3]
  rw [if_pos ⟨by omega,by rw [List.length_map]; omega⟩]
  simp only [Int.toNat_natCast,ns,List.getElem?_map,h,Option.map_some]
  rfl
def walk:El → List Int → Option El
  | e,[] => some e
  | e,p :: r => if p < 0 then none else match e.s[p.toNat]? with
    | some x => walk x r
    | none => none
theorem walk_P {P:El → Prop} (hP:∀ e,P e → ∀ x ∈ e.s,P x):∀ (ps:List Int) (e x:El),P e → walk e ps=some x → P x
  | [],e,x,h,hw => by cases hw; exact h
  | p :: r,e,x,h,hw => by
    unfold walk at hw
    split at hw
    · cases hw
    · split at hw
      · rename_i y hy
        exact walk_P hP r y x (hP e h y (List.mem_of_getElem? hy)) hw
      · cases hw
abbrev S (f:Bool) (ps:List Int) (c:Option Nat) (i:Nat) (x:El):St:=⟨[(2,.ptr (1,2,0) 0),(4,.ptr (1,4,0) 0),(15,.sl f (ns ps) c),(16,.int .i64 (ps.length:Int)),(17,.int .i64 (i:Int))],[((1,2,0),bx (ec x)),((1,4,0),bx [.int .u8 0,.bool false,.int .u32 0,.sl true [] (some 0),.sl true [] (some 0)])]⟩
abbrev Bad:AExit × St:=(.ret,⟨[(4,.ptr (1,4,0) 0),(5,.int .i64 19)],[((1,4,0),bx [.int .u8 0,.bool false,.int .u32 0,.sl true [] (some 0),.sl true [] (some 0)])]⟩)
end E34
end
section
open Ab Go TabE
attribute [local simp ↓] s_seq s_reg s_regd s_cond s_block s_cons s_consG s_regD
attribute [local simp] s_nil s_loop s_round s_lpn s_lpe s_lpr firstReg s_gt s_gf s_wb s_wu s_val s_valN s_skip s_calls s_callP s_cax lookR flatR pureKs s_ret s_rgx s_sqn s_sqr s_sqe s_cdb s_bkn s_bkr s_bke s_exit s_ret' s_skip' s_finr s_finn s_fin1 s_fix s_clean s_gc0 o_tmp o_int o_bool o_nil o_str o_fn o_nil' l_hit l_miss l_nil ol_nil ol_cons ol_some x_move x_assign x_pick pk_t pk_f x_bin bn_s x_un x_extract x_callF cl_no x_callB x_callBF frzV x_conv cvx convA frame0 binA intOp resL resA results1 sealLW AV.pure AV.pureL keepT x_alloc x_box bxx x_build bdx x_buildSlice bsx x_buildSliceF bsf x_load ldx x_store stx x_slice slx x_fieldAddr x_field x_index ixx x_indexAddr iax x_makeSlice msx x_makeSliceF msf x_nilCheck newK genOf setK lookK fillA writeL writeC readC conts TyI.mk1 sliceA boundsA boundsB fitsA numA indexAddrA fieldAddrA partA fieldA indexA appendA copyA builtinA AV.cells chunk gcH reach keysT keepK inKs AV.keys AV.keysL Ty.isAgg eq1 eqL convA.go ltI w_u8 w_u32 w_u64 w_i64 w_fdiv w_tdiv w_tmod IntKind.bits unA sc_int sc_bool sc_str sc_sl sc_ref sc_ptr sc_pel sc_nilp sc_fn sc_nilf sc_if sc_nili sc_agg sc_tup sc_mem bs_pure bs_kl bs_length bs_cells bs_all sl_row sealRow sealY sl_int sl_bool sl_str sl_sl sl_nilp sl_nilf sl_nili sl_pel sl_agg sl_tup sl_fn sl_if nat_1 bs_cons bs_nil i_beq i_bne x_mkF x_mkI x_tassert x_panic s_pan s_sqp s_bkp s_finp s_fixp s_lpp s_rgp s_retp s_site s_stxN s_stxO x_callT clx El.avs_len s_dyn0 s_rgy barOf dynChk footL dynOK disjK keysOp opVals Op.operands
section
open Ab Go TabE Sp E34
namespace F1
def tg (x:Int):Int × Bool × Int:=if x % 8=0 then (0,true,16) else if x % 8=1 then (0,true,17) else if x % 8=2 then (2,true,x / 8 % 4 * 12) else if x % 8=3 then (2,false,x / 8 % 4) else if x % 8=4 then (0,false,1) else if x % 8=5 then (0,false,4) else (0,false,2)
theorem tag (x:Int) (h0:0 ≤ x) (h1:x < 256):Con E 10 128 [.int .u8 x] (.agg [.int .u8 (tg x).1,.bool (tg x).2.1,.int .u32 (tg x).2.2]):=by
  refine con_of E_fn128 rfl (Nat.le_of_ble_eq_true rfl) rfl rfl (g:=[]) ?_
  rw [body_128,c128]
  have t1:Int.tmod x 8=x % 8:=Int.tmod_eq_emod_of_nonneg h0
  have t2:Int.tdiv x 8=x / 8:=Int.tdiv_eq_ediv_of_nonneg h0
  have t3:Int.tmod (x / 8) 4=x / 8 % 4:=Int.tmod_eq_emod_of_nonneg (by omega)
  have w1:(x / 8) % 256=x / 8:=Int.emod_eq_of_lt (by omega) (by omega)
  have w2:(x / 8 % 4) % 4294967296=x / 8 % 4:=Int.emod_eq_of_lt (by omega) (by omega)
  have w3:(x / 8 % 4 * 12) % 4294967296=x / 8 % 4 * 12:=Int.emod_eq_of_lt (by omega) (by omega)
  have m:x % 8=0 ∨ x % 8=1 ∨ x % 8=2 ∨ x % 8=3 ∨ x % 8=4 ∨ x % 8=5 ∨ x % 8=6 ∨ x % 8=7:=by omega
  unfold tg
  rcases m with m | m | m | m | m | m | m | m <;> simp [m,t1,t2,t3,w1,w2,w3]
theorem ns_len (ps:List Int):(ns ps).length=ps.length:=List.length_map ..
theorem ns_pure:∀ ps:List Int,AV.pureL (ns ps)=true
  | [] => rfl
  | p :: r => by have:=ns_pure r; simpa [ns,AV.pureL,AV.pure] using this
theorem ns_keys (ps):AV.keysL (ns ps)=[]:=AV.keysL_pure _ (ns_pure ps)
theorem ns_scal:∀ ps:List Int,(ns ps).all AV.scal=true
  | [] => rfl
  | p :: r => by have:=ns_scal r; simp [ns,AV.scal]
theorem ns_app (a b):ns (a ++ b)=ns a ++ ns b:=List.map_append ..
def b49:Code:=lp c20 0
abbrev S49 (a b:El) (i:Nat):St:=⟨[(2,.ptr (1,2,0) 0),(3,.ptr (1,3,0) 0),(5,.int .i64 (i:Int))],[((1,2,0),bx (ec a)),((1,3,0),bx (ec b))]⟩
theorem go49 (q k1:Nat) (a b x y:El) (i:Nat) (hx:a.s[i]? = some x) (hy:b.s[i]? = some y) (le:a.s.length ≤ 9223372036854775807) (B:∀ h,aCall E q 0 20 [x.av,y.av] h=some (.ret (.int .i64 1),h)) :
    rnd fn20 b49 q k1 (S49 a b i)=some (.normal,S49 a b (i + 1)):=by
  have hi:i < a.s.length:=(List.getElem?_eq_some_iff.1 hx).1
  have ix:=fun hp => El.at_ a.fs a.cs a.s i x hx hp
  have iy:=fun hp => El.at_ b.fs b.cs b.s i y hy hp
  have w:=w64' ((i:Int) + 1) (by omega) (by omega)
  rw [El.av_eq,El.av_eq] at B
  simp [b49,lp,lps,c20,-indexAddrA,ix,iy,w,B,hi]
theorem last49 (q k1:Nat) (a b:El):rnd fn20 b49 q k1 (S49 a b a.s.length)=some (.exit 0,⟨[(2,.ptr (1,2,0) 0),(3,.ptr (1,3,0) 0),(5,.int .i64 (a.s.length:Int)),(33,.bool false)],(S49 a b a.s.length).h⟩):=by
  simp [b49,lp,lps,c20]
theorem same:∀ a:El,∀ b:El,a.ok → a.core=b.core → ∃ N,Con E N 20 [a.av,b.av] (.int .i64 1):=by
  refine El.ind fun a ih b ha hc => ?_
  obtain ⟨e1,e2,e3,e4,e5⟩:=El.core_inj.1 hc
  have ll:=El.cores_len e5
  obtain ⟨N,hN⟩:=unif (P:=fun (i n:Nat) => ∀ x y:El,a.s[i]? = some x → b.s[i]? = some y → Con E n 20 [x.av,y.av] (.int .i64 1)) (fun i n m h hm x y hx hy k hk => h x y hx hy k (Nat.le_trans hm hk)) (List.range a.s.length) (fun i hi => by
    have hi':i < a.s.length:=List.mem_range.1 hi
    obtain ⟨x,hx⟩:∃ x,a.s[i]? = some x:=⟨a.s[i],by simp⟩
    obtain ⟨y,hy⟩:∃ y,b.s[i]? = some y:=⟨b.s[i]'(by omega),List.getElem?_eq_getElem _⟩
    have mx:=List.mem_of_getElem? hx
    obtain ⟨n,hn⟩:=ih x mx y (ha.sub x mx) (El.cores_get e5 hx hy)
    exact ⟨n,fun x' y' hx' hy' => by rw [hx] at hx'; rw [hy] at hy'; cases hx'; cases hy'; exact hn⟩)
  obtain ⟨K,hK⟩:∃ K,N + a.s.length + 10=K:=⟨_,rfl⟩
  refine ⟨K + 1,con_of E_fn20 (by simp [AV.pureL,El.av_pure]) (Nat.le_of_ble_eq_true rfl) rfl rfl (g:=[]) ?_⟩
  rw [body_20,c20]
  have L:=loopQ (fn:=fn20) (b:=b49) (K:=K) (k:=K) (fun i => S49 a b i) a.s.length rfl (fun i hi => by
    obtain ⟨x,hx⟩:∃ x,a.s[i]? = some x:=⟨a.s[i],by simp⟩
    obtain ⟨y,hy⟩:∃ y,b.s[i]? = some y:=⟨b.s[i]'(by omega),List.getElem?_eq_getElem _⟩
    exact go49 K K a b x y i hx hy ha.sl fun h => hN i (List.mem_range.2 hi) x y hx hy K (by omega) 0 h) (last49 K K a b) (by simp) (by omega)
  simp [b49,lp,lps,c20,firstReg,S49,bx,ec,← e1,← e2,← e3,← e4] at L
  have ga:=bs_go ha.bb
  simp [El.av_eq,-s_round,← e1,← e2,← e3,← e4,← ll,ga,L,fitZ]
end F1
end
end
section
open Ab Go TabE Sp E18 E20 E22 E23 E26 E31 E33
namespace E36
theorem cnts_mem {x:El}:∀ {l:List El},x ∈ l → cnt x.core ≤ cnts (El.cores l)
  | y :: r,h => by
    rw [El.cores,cnts]
    have:=cnt_pos y.core
    have:=cnts_pos (El.cores r)
    rcases List.mem_cons.1 h with rfl | h
    · omega
    · have:=cnts_mem h; omega
end E36
end
section
open Ab Go TabE Sp E18
namespace E18
theorem encs_mem {x:El}:∀ {l:List El},x ∈ l → (enc x.core).length ≤ (encs (El.cores l)).length
  | y :: r,h => by
    rw [El.cores,encs,List.length_append]
    rcases List.mem_cons.1 h with rfl | h
    · omega
    · have:=encs_mem h; omega
end E18
end
section
open Ab Go TabE Sp
namespace E40
def num:List Int → Int → Int → Int × Int × Int
  | [],_,_ => (0,0,7)
  | x :: r,i,a => if (i=1 ∧ x=128) ∨ (i=4 ∧ 128 ≤ x) then (0,0,9) else if x < 128 then (if 128 * a + x % 128 < 31 then (0,0,9) else (128 * a + x % 128,i + 1,0)) else num r (i + 1) (128 * a + x % 128)
def gt:List Int → (Int × Bool × Int) × Int × Int
  | [] => ((0,false,0),0,7)
  | x :: r =>
    let p:=if x % 32=31 then num r 1 0 else (x % 32,1,0)
    let e:=if p.2.2=0 then tagE (x / 64) (decide (x / 32 % 2=1)) p.1 else p.2.2
    if e ≠ 0 then ((0,false,0),0,e) else ((x / 64,decide (x / 32 % 2=1),p.1),p.2.1,0)
theorem byte_at (f c) (xs:List Int) (i:Nat) (x:Int) (h:xs[i]? = some x):∀ hp,indexAddrA E 26 (.sl f (bs xs) c) (.int .i64 i) hp=some (.pel [.int .u8 x]):=by
  intro hp
  have hi:i < xs.length:=(List.getElem?_eq_some_iff.1 h).1
  unfold indexAddrA
  simp only [E_ty26,E_ty5]
  rw [if_pos ⟨by omega,by rw [bs_len]; omega⟩]
  simp only [Int.toNat_natCast,bs,List.getElem?_map,h,Option.map_some]
  rfl
end E40
end
section
open Ab Go TabE Sp E40
namespace Sp
def gl:List Int → Int × Int × Int
  | [] => (0,0,7)
  | x :: r => if x ≤ 127 then (x,1,0)
    else if x=128 ∨ 131 < x then (0,0,10)
    else if x=129 then (match r with
      | y :: _ => if y ≤ 127 then (0,0,10) else (y,2,0)
      | _ => (0,0,7))
    else if x=130 then (match r with
      | y :: z :: _ => if y=0 then (0,0,10) else (256 * y + z,3,0)
      | _ => (0,0,7))
    else (match r with
      | y :: z :: u :: _ => if y=0 then (0,0,10) else (256 * (256 * y + z) + u,4,0)
      | _ => (0,0,7))
end Sp
end
section
open Ab Go TabE Sp E40
namespace E51
theorem aLoop_cl {g:St → Option (AExit × St)} {cl:St → St} {n:Nat} {s s':St} (h:cl s=cl s'):aLoop g cl n s=aLoop g cl n s':=by cases n <;> simp only [aLoop,h]
end E51
end
section
open Ab Go TabE
attribute [local simp ↓] s_seq s_reg s_regd s_cond s_block s_cons s_consG s_regD
attribute [local simp] s_nil s_loop s_round s_lpn s_lpe s_lpr firstReg s_gt s_gf s_wb s_wu s_val s_valN s_skip s_calls s_callP s_cax lookR flatR pureKs s_ret s_rgx s_sqn s_sqr s_sqe s_cdb s_bkn s_bkr s_bke s_exit s_ret' s_skip' s_finr s_finn s_fin1 s_fix s_clean s_gc0 o_tmp o_int o_bool o_nil o_str o_fn o_nil' l_hit l_miss l_nil ol_nil ol_cons ol_some x_move x_assign x_pick pk_t pk_f x_bin bn_s x_un x_extract x_callF cl_no x_callB x_callBF frzV x_conv cvx convA frame0 binA intOp resL resA results1 sealLW AV.pure AV.pureL keepT x_alloc x_box bxx x_build bdx x_buildSlice bsx x_buildSliceF bsf x_load ldx x_store stx x_slice slx x_fieldAddr x_field x_index ixx x_indexAddr iax x_makeSlice msx x_makeSliceF msf x_nilCheck newK genOf setK lookK fillA writeL writeC readC conts TyI.mk1 sliceA boundsA boundsB fitsA numA indexAddrA fieldAddrA partA fieldA indexA appendA copyA builtinA AV.cells chunk gcH reach keysT keepK inKs AV.keys AV.keysL Ty.isAgg eq1 eqL convA.go ltI w_u8 w_u32 w_u64 w_i64 w_fdiv w_tdiv w_tmod IntKind.bits unA sc_int sc_bool sc_str sc_sl sc_ref sc_ptr sc_pel sc_nilp sc_fn sc_nilf sc_if sc_nili sc_agg sc_tup sc_mem bs_pure bs_kl bs_length bs_cells bs_all sl_row sealRow sealY sl_int sl_bool sl_str sl_sl sl_nilp sl_nilf sl_nili sl_pel sl_agg sl_tup sl_fn sl_if nat_1 bs_cons bs_nil i_beq i_bne x_mkF x_mkI x_tassert x_panic s_pan s_sqp s_bkp s_finp s_fixp s_lpp s_rgp s_retp s_site s_stxN s_stxO x_callT clx El.avs_len s_dyn0 s_rgy barOf dynChk footL dynOK disjK keysOp opVals Op.operands
section
open Ab Go TabE Sp F1
namespace F2
def lb (x:Int):List Int:=if (tg x).1=0 ∧ (tg x).2.2=1 then [255] else if (tg x).1=0 ∧ (tg x).2.2=2 then [x / 8] else List.replicate (x * (x / 64)).toNat 0
def leaf (x:Int):El:=.mk (tg x).1 false (tg x).2.2 false (lb x) (some (lb x).length) true [] (some 0)
def node (x:Int) (s:List El):El:=.mk (tg x).1 true (tg x).2.2 true [] (some 0) s.isEmpty s (if s.isEmpty then some 0 else none)
def bB:Code:=lp c127 0
abbrev S0 (fl:Bool) (cs:List Int) (cp:Option Nat) (i lv:Nat):St:=⟨[(0,.sl fl (bs cs) cp),(1,.int .i64 (i:Int)),(2,.int .i64 (lv:Int)),(8,.sl true [] (some 0))],[]⟩
abbrev SR (fl:Bool) (cs:List Int) (cp:Option Nat) (i lv:Nat) (l:List El) (g:Nat):St:=⟨[(0,.sl fl (bs cs) cp),(1,.int .i64 (i:Int)),(2,.int .i64 (lv:Int)),(8,.ref (1,84,g) 0 l.length none)],[((1,84,g),⟨El.fl l,true,true,false,5,true⟩)]⟩
theorem last0 (q k1:Nat) (fl cs cp) (i lv:Nat) (h:cs.length ≤ i ∨ 40 ≤ i):rnd fn127 bB q k1 (S0 fl cs cp i lv)=some (.exit 0,⟨[(0,.sl fl (bs cs) cp),(1,.int .i64 (i:Int)),(2,.int .i64 (lv:Int)),(8,.sl true [] (some 0)),(18,.bool false)],[]⟩):=by
  by_cases h1:i < cs.length
  · have h2:¬ (i:Int) < 40:=by omega
    have h3:¬ i < 40:=by omega
    simp [bB,lp,lps,c127,h1,h2,h3]
  · simp [bB,lp,lps,c127,h1]
theorem lastR (q k1:Nat) (fl cs cp) (i lv:Nat) (l:List El) (g:Nat) (h:cs.length ≤ i ∨ 40 ≤ i):rnd fn127 bB q k1 (SR fl cs cp i lv l g)=some (.exit 0,⟨[(0,.sl fl (bs cs) cp),(1,.int .i64 (i:Int)),(2,.int .i64 (lv:Int)),(8,.ref (1,84,g) 0 l.length none),(18,.bool false)],[((1,84,g),⟨El.fl l,true,true,false,5,true⟩)]⟩):=by
  have f2:=El.fl_keys l
  by_cases h1:i < cs.length
  · have h2:¬ (i:Int) < 40:=by omega
    have h3:¬ i < 40:=by omega
    simp [bB,lp,lps,c127,h1,h2,h3,f2]
  · simp [bB,lp,lps,c127,h1,f2]
theorem end0 (q k1:Nat) (fl cs cp) (i lv:Nat) (x:Int) (hx:cs[i]? = some x) (i40:i < 40) (x0:0 ≤ x) (hm:x % 16=15):rnd fn127 bB q k1 (S0 fl cs cp i lv)=some (.ret,⟨[(6,.sl true [] (some 0)),(7,.int .i64 ((i:Int) + 1))],[]⟩):=by
  have hi:i < cs.length:=(List.getElem?_eq_some_iff.1 hx).1
  have ix:=E40.byte_at fl cp cs i x hx
  have w:=w64' ((i:Int) + 1) (by omega) (by omega)
  have i40':(i:Int) < 40:=by omega
  have t1:Int.tmod x 16=x % 16:=Int.tmod_eq_emod_of_nonneg x0
  simp [bB,lp,lps,c127,-indexAddrA,ix,w,hi,i40,i40',t1,hm]
theorem endR (q k1:Nat) (fl cs cp) (i lv:Nat) (l:List El) (g:Nat) (x:Int) (hx:cs[i]? = some x) (i40:i < 40) (x0:0 ≤ x) (hm:x % 16=15):rnd fn127 bB q k1 (SR fl cs cp i lv l g)=some (.ret,⟨[(6,.ref (1,84,g) 0 l.length none),(7,.int .i64 ((i:Int) + 1))],[((1,84,g),⟨El.fl l,true,true,false,5,true⟩)]⟩):=by
  have hi:i < cs.length:=(List.getElem?_eq_some_iff.1 hx).1
  have ix:=E40.byte_at fl cp cs i x hx
  have w:=w64' ((i:Int) + 1) (by omega) (by omega)
  have i40':(i:Int) < 40:=by omega
  have t1:Int.tmod x 16=x % 16:=Int.tmod_eq_emod_of_nonneg x0
  have f2:=El.fl_keys l
  simp [bB,lp,lps,c127,-indexAddrA,ix,w,hi,i40,i40',t1,hm,f2]
abbrev S5 (fl:Bool) (cs:List Int) (cp:Option Nat) (i:Nat) (x:Int):St:=⟨[(0,.sl fl (bs cs) cp),(1,.int .i64 (i:Int)),(2,.int .i64 5),(8,.sl true [] (some 0)),(10,.ptr (1,10,0) 0),(37,.bool true)],[((1,10,0),bx [.int .u8 (tg x).1,.bool (tg x).2.1,.int .u32 (tg x).2.2,.sl true [] (some 0),.sl true [] (some 0)])]⟩
abbrev SR5 (fl:Bool) (cs:List Int) (cp:Option Nat) (i:Nat) (l:List El) (g:Nat) (x:Int):St:=⟨[(0,.sl fl (bs cs) cp),(1,.int .i64 (i:Int)),(2,.int .i64 5),(8,.ref (1,84,g) 0 l.length none),(10,.ptr (1,10,0) 0),(37,.bool true)],[((1,84,g),⟨El.fl l,true,true,false,5,true⟩),((1,10,0),bx [.int .u8 (tg x).1,.bool (tg x).2.1,.int .u32 (tg x).2.2,.sl true [] (some 0),.sl true [] (some 0)])]⟩
abbrev TagC (q:Nat) (x:Int):Prop:=∀ h,aCall E q 0 128 [.int .u8 x] h=some (.ret (.agg [.int .u8 (tg x).1,.bool (tg x).2.1,.int .u32 (tg x).2.2]),h)
theorem skip0 (q k1:Nat) (fl cs cp) (i:Nat) (x:Int) (hx:cs[i]? = some x) (i40:i < 40) (x0:0 ≤ x) (hm:¬ x % 16=15) (T:TagC q x) (k:(tg x).2.1=true):rnd fn127 bB q k1 (S0 fl cs cp i 5)=some (.normal,S5 fl cs cp (i + 1) x):=by
  have hi:i < cs.length:=(List.getElem?_eq_some_iff.1 hx).1
  have ix:=E40.byte_at fl cp cs i x hx
  have w:=w64' ((i:Int) + 1) (by omega) (by omega)
  have i40':(i:Int) < 40:=by omega
  have t1:Int.tmod x 16=x % 16:=Int.tmod_eq_emod_of_nonneg x0
  simp [bB,lp,lps,c127,-indexAddrA,ix,w,hi,i40,i40',t1,hm,T,k]
theorem skipR (q k1:Nat) (fl cs cp) (i:Nat) (l:List El) (g:Nat) (x:Int) (hx:cs[i]? = some x) (i40:i < 40) (x0:0 ≤ x) (hm:¬ x % 16=15) (T:TagC q x) (k:(tg x).2.1=true):rnd fn127 bB q k1 (SR fl cs cp i 5 l g)=some (.normal,SR5 fl cs cp (i + 1) l g x):=by
  have hi:i < cs.length:=(List.getElem?_eq_some_iff.1 hx).1
  have ix:=E40.byte_at fl cp cs i x hx
  have w:=w64' ((i:Int) + 1) (by omega) (by omega)
  have i40':(i:Int) < 40:=by omega
  have t1:Int.tmod x 16=x % 16:=Int.tmod_eq_emod_of_nonneg x0
  have f2:=El.fl_keys l
  simp [bB,lp,lps,c127,-indexAddrA,ix,w,hi,i40,i40',t1,hm,T,k,f2]
theorem cl0 (fl cs cp i x):cleanS 1 ((firstReg bB).bind fn127.head) (S5 fl cs cp i x)=cleanS 1 ((firstReg bB).bind fn127.head) (S0 fl cs cp i 5):=rfl
theorem clR (fl cs cp i l g x):cleanS 1 ((firstReg bB).bind fn127.head) (SR5 fl cs cp i l g x)=cleanS 1 ((firstReg bB).bind fn127.head) (SR fl cs cp i 5 l g):=by
  have f2:=El.fl_keys l
  simp [bB,lp,lps,c127,firstReg,cleanS,keepT,lookT,gcH,reach,keysT,AV.keys,keepK,inKs,lookK,f2,AV.keysL,bx]
end F2
end
end
