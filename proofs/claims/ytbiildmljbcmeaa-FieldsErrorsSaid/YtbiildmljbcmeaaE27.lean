/- Own work, no conditions. -/
import Derived.Test.YtbiildmljbcmeaaF4
import Derived.Test.YtbiildmljbcmeaaE12
import Derived.Test.YtbiildmljbcmeaaE25
import Derived.Test.YtbiildmljbcmeaaP5
import Derived.Test.YtbiildmljbcmeaaB40
import Derived.KernelRfl
set_option maxRecDepth 20000
set_option linter.unusedSimpArgs false
set_option linter.unusedVariables false
set_option maxHeartbeats 16000000
section
open Ab Go TabE
attribute [local simp ↓] s_seq s_reg s_regd s_cond s_block s_cons s_consG s_regD
attribute [local simp] s_nil s_loop s_round s_lpn s_lpe s_lpr firstReg s_gt s_gf s_wb s_wu s_val s_valN s_skip s_calls s_callP s_cax lookR flatR pureKs s_ret s_rgx s_sqn s_sqr s_sqe s_cdb s_bkn s_bkr s_bke s_exit s_ret' s_skip' s_finr s_finn s_fin1 s_fix s_clean s_gc0 o_tmp o_int o_bool o_nil o_str o_fn o_nil' l_hit l_miss l_nil ol_nil ol_cons ol_some x_move x_assign x_pick pk_t pk_f x_bin bn_s x_un x_extract x_callF cl_no x_callB x_callBF frzV x_conv cvx convA frame0 binA intOp resL resA results1 sealLW AV.pure AV.pureL keepT x_alloc x_box bxx x_build bdx x_buildSlice bsx x_buildSliceF bsf x_load ldx x_store stx x_slice slx x_fieldAddr x_field x_index ixx x_indexAddr iax x_makeSlice msx x_makeSliceF msf x_nilCheck newK genOf setK lookK fillA writeL writeC readC conts TyI.mk1 sliceA boundsA boundsB fitsA numA indexAddrA fieldAddrA partA fieldA indexA appendA copyA builtinA AV.cells chunk gcH reach keysT keepK inKs AV.keys AV.keysL Ty.isAgg eq1 eqL convA.go ltI w_u8 w_u32 w_u64 w_i64 w_fdiv w_tdiv w_tmod IntKind.bits unA sc_int sc_bool sc_str sc_sl sc_ref sc_ptr sc_pel sc_nilp sc_fn sc_nilf sc_if sc_nili sc_agg sc_tup sc_mem bs_pure bs_kl bs_length bs_cells bs_all sl_row sealRow sealY sl_int sl_bool sl_str sl_sl sl_nilp sl_nilf sl_nili sl_pel sl_agg sl_tup sl_fn sl_if nat_1 bs_cons bs_nil i_beq i_bne x_mkF x_mkI x_tassert x_panic s_pan s_sqp s_bkp s_finp s_fixp s_lpp s_rgp s_retp s_site s_stxN s_stxO x_callT clx El.avs_len s_dyn0 s_rgy barOf dynChk footL dynOK disjK keysOp opVals Op.operands sealA AV.scal
section
open Ab Go TabE Sp E34 F1
namespace F5
abbrev fF (p:List Int) (e:Int):AV:=.agg [.sl p.isEmpty (ns p) (some p.length),.int .i64 e]
abbrev fR (p:List Int) (e:Int):AV:=.agg [.sl p.isEmpty (ns p) (if p.isEmpty then some 0 else none),.int .i64 e]
theorem fault1 (p:List Int) (e:Int) (hl:p.length ≤ 100000000):Con E (p.length + 20) 48 [fF p e,fR p e] (.int .i64 1):=F1.fault _ _ _ p e hl
theorem clipI (f:Bool) (xs:List AV) (c:Option Nat) (hp:AV.pureL xs=true):Con E 5 107 [.sl f xs c] (.sl f xs (some xs.length)):=by
  refine .of (g:=[]) (by simp [AV.pureL,AV.pure]) ?_
  rw [aCall_fn rfl E_fn107 (by simp [AV.pureL,AV.pure]) (Nat.le_of_ble_eq_true rfl) rfl rfl,body_107,c107]
  simp [hp]
theorem fnil (e:Int):Con E 10 82 [.int .i64 e,.sl true [] (some 0)] (fF [] e):=by
  have c:=clipI true [] (some 0) rfl 9 (by omega) 0
  refine con_of E_fn82 rfl (Nat.le_of_ble_eq_true rfl) rfl rfl (g:=[]) ?_
  rw [body_82,c82]
  try simp at c
  simp [c]
theorem fone (e x:Int) (c:Option Nat):Con E 10 82 [.int .i64 e,.sl false [.int .i64 x] c] (fF [x] e):=by
  have c:=clipI false [.int .i64 x] c rfl 9 (by omega) 0
  refine con_of E_fn82 rfl (Nat.le_of_ble_eq_true rfl) rfl rfl (g:=[]) ?_
  rw [body_82,c82]
  try simp at c
  simp [c]
theorem rnil (e x:Int) (h:x < 0):Con E 10 67 [.int .i64 e,.int .i64 x] (fR [] e):=by
  have h':¬ 0 ≤ x:=by omega
  refine con_of E_fn67 rfl (Nat.le_of_ble_eq_true rfl) rfl rfl (g:=[]) ?_
  rw [body_67,c67]
  simp [h,h']
theorem rone (e x:Int) (h:0 ≤ x):Con E 10 67 [.int .i64 e,.int .i64 x] (fR [x] e):=by
  refine con_of E_fn67 rfl (Nat.le_of_ble_eq_true rfl) rfl rfl (g:=[]) ?_
  rw [body_67,c67]
  simp [h]
def exS (e:El) (u:Int):List Int × Int:=if ¬ (e.c=2 ∧ e.k=true ∧ e.n=u) then ([],9) else if e.s.length=0 then ([],7) else if 1 < e.s.length then ([1],8) else ([],0)
theorem explicit (e:El) (u:Int):Con E 20 58 [e.av,.int .u32 u] (fF (exS e u).1 (exS e u).2):=by
  have f9:=fnil 9 19 (by omega) 0
  have f7:=fnil 7 19 (by omega) 0
  have f8:=fone 8 1 (some 1) 19 (by omega) 0
  refine con_of E_fn58 (by simp [AV.pureL,AV.pure,El.av_pure]) (Nat.le_of_ble_eq_true rfl) rfl rfl (g:=[]) ?_
  rw [body_58,c58]
  unfold exS
  try simp at f9
  try simp at f7
  try simp at f8
  by_cases a:e.c=2
  case neg => simp [El.av_eq,a,f9,fitZ]
  by_cases b:e.k=true
  case neg => simp [El.av_eq,a,b,f9,fitZ]
  by_cases c:e.n=u
  case neg => simp [El.av_eq,a,b,c,f9,fitZ]
  by_cases d:e.s.length=0
  · have d':e.s=[]:=List.length_eq_zero_iff.1 d
    simp [El.av_eq,a,b,c,d',f7,fitZ]
  have d':¬ e.s=[]:=fun h => d (by rw [h]; rfl)
  by_cases g:1 < e.s.length
  · have g':(1:Int) < e.s.length:=by omega
    simp [El.av_eq,a,b,c,d,d',g,g',f8,fitZ]
  · have g':¬ (1:Int) < e.s.length:=by omega
    simp [El.av_eq,a,b,c,d,d',g,g',fitZ]
theorem rexplicit (e:El) (u:Int):Con E 20 59 [e.av,.int .u32 u] (fR (exS e u).1 (exS e u).2):=by
  have f9:=rnil 9 (-1) (by omega) 19 (by omega) 0
  have f7:=rnil 7 (-1) (by omega) 19 (by omega) 0
  have f8:=rone 8 1 (by omega) 19 (by omega) 0
  refine con_of E_fn59 (by simp [AV.pureL,AV.pure,El.av_pure]) (Nat.le_of_ble_eq_true rfl) rfl rfl (g:=[]) ?_
  rw [body_59,c59]
  unfold exS
  try simp at f9
  try simp at f7
  try simp at f8
  by_cases a:e.c=2
  case neg => simp [El.av_eq,a,f9,fitZ]
  by_cases b:e.k=true
  case neg => simp [El.av_eq,a,b,f9,fitZ]
  by_cases c:e.n=u
  case neg => simp [El.av_eq,a,b,c,f9,fitZ]
  by_cases d:e.s.length=0
  · have d':e.s=[]:=List.length_eq_zero_iff.1 d
    simp [El.av_eq,a,b,c,d',f7,fitZ]
  have d':¬ e.s=[]:=fun h => d (by rw [h]; rfl)
  by_cases g:1 < e.s.length
  · have g':(1:Int) < e.s.length:=by omega
    simp [El.av_eq,a,b,c,d,d',g,g',f8,fitZ]
  · have g':¬ (1:Int) < e.s.length:=by omega
    simp [El.av_eq,a,b,c,d,d',g,g',fitZ]
def lsS (e:El) (t:Int × Bool × Int) (x y:Int):List Int × Int:=if x < 0 ∨ y < x then ([],1) else if ¬ (e.c=t.1 ∧ e.k=t.2.1 ∧ e.n=t.2.2) then ([],9) else if (e.s.length:Int) < x then (if e.s.length=0 then ([],17) else ([],7)) else if y < e.s.length then ([y],3) else ([],0)
theorem list (e:El) (t:Int × Bool × Int) (x y:Int):Con E 20 56 [e.av,.agg [.int .u8 t.1,.bool t.2.1,.int .u32 t.2.2],.int .i64 x,.int .i64 y] (fF (lsS e t x y).1 (lsS e t x y).2):=by
  have f1:=fnil 1 19 (by omega) 0
  have f9:=fnil 9 19 (by omega) 0
  have f17:=fnil 17 19 (by omega) 0
  have f7:=fnil 7 19 (by omega) 0
  have f3:=fone 3 y (some 1) 19 (by omega) 0
  refine con_of E_fn56 (by simp [AV.pureL,AV.pure,El.av_pure]) (Nat.le_of_ble_eq_true rfl) rfl rfl (g:=[]) ?_
  rw [body_56,c56]
  unfold lsS
  try simp at f1
  try simp at f9
  try simp at f17
  try simp at f7
  try simp at f3
  by_cases a0:x < 0
  · simp [El.av_eq,a0,f1]
  by_cases a1:y < x
  · simp [El.av_eq,a0,a1,f1]
  by_cases a:e.c=t.1
  case neg => simp [El.av_eq,a0,a1,a,f9,fitZ]
  by_cases b:e.k=t.2.1
  case neg => simp [El.av_eq,a0,a1,a,b,f9,fitZ]
  by_cases c:e.n=t.2.2
  case neg => simp [El.av_eq,a0,a1,a,b,c,f9,fitZ]
  by_cases d:(e.s.length:Int) < x
  · by_cases g:e.s=[]
    · have d2:0 < x:=by rw [g] at d; simpa using d
      simp [El.av_eq,a0,a1,a,b,c,d,d2,g,f17,fitZ]
    · have g':¬ e.s.length=0:=fun h => g (List.length_eq_zero_iff.1 h)
      simp [El.av_eq,a0,a1,a,b,c,d,g,g',f7,fitZ]
  by_cases g:y < e.s.length
  · simp [El.av_eq,a0,a1,a,b,c,d,g,f3,fitZ]
  · simp [El.av_eq,a0,a1,a,b,c,d,g,fitZ]
theorem rlist (e:El) (t:Int × Bool × Int) (x y:Int):Con E 20 57 [e.av,.agg [.int .u8 t.1,.bool t.2.1,.int .u32 t.2.2],.int .i64 x,.int .i64 y] (fR (lsS e t x y).1 (lsS e t x y).2):=by
  have f1:=rnil 1 (-1) (by omega) 19 (by omega) 0
  have f9:=rnil 9 (-1) (by omega) 19 (by omega) 0
  have f17:=rnil 17 (-1) (by omega) 19 (by omega) 0
  have f7:=rnil 7 (-1) (by omega) 19 (by omega) 0
  refine con_of E_fn57 (by simp [AV.pureL,AV.pure,El.av_pure]) (Nat.le_of_ble_eq_true rfl) rfl rfl (g:=[]) ?_
  rw [body_57,c57]
  unfold lsS
  try simp at f1
  try simp at f9
  try simp at f17
  try simp at f7
  by_cases a0:x < 0
  · simp [El.av_eq,a0,f1]
  by_cases a1:y < x
  · simp [El.av_eq,a0,a1,f1]
  have f3:=rone 3 y (by omega) 19 (by omega) 0
  try simp at f3
  by_cases a:e.c=t.1
  case neg => simp [El.av_eq,a0,a1,a,f9,fitZ]
  by_cases b:e.k=t.2.1
  case neg => simp [El.av_eq,a0,a1,a,b,f9,fitZ]
  by_cases c:e.n=t.2.2
  case neg => simp [El.av_eq,a0,a1,a,b,c,f9,fitZ]
  by_cases d:(e.s.length:Int) < x
  · by_cases g:e.s=[]
    · have d2:0 < x:=by rw [g] at d; simpa using d
      simp [El.av_eq,a0,a1,a,b,c,d,d2,g,f17,fitZ]
    · have g':¬ e.s.length=0:=fun h => g (List.length_eq_zero_iff.1 h)
      simp [El.av_eq,a0,a1,a,b,c,d,g,g',f7,fitZ]
  by_cases g:y < e.s.length
  · simp [El.av_eq,a0,a1,a,b,c,d,g,f3,fitZ]
  · simp [El.av_eq,a0,a1,a,b,c,d,g,fitZ]
end F5
end
end
section
open Ab Go TabE Sp E34 F1
namespace Rw
def row {α:Type} (f:α → List AV) (l:List α):List AV:=l.flatMap f
structure Cl {α:Type} (f:α → List AV) (n:Nat):Prop where
  len:∀ x,(f x).length=n
  pure:∀ x,AV.pureL (f x)=true
  scal:∀ x,(f x).all AV.scal=true
variable {α:Type} {f:α → List AV} {n:Nat}
theorem row_cons (x:α) (b:List α):row f (x :: b)=f x ++ row f b:=by simp [row]
theorem row_one (x:α):row f [x]=f x:=by simp [row]
theorem row_snoc (a:List α) (x:α):row f (a ++ [x])=row f a ++ f x:=by simp [row]
theorem pureL_app:∀ a b:List AV,AV.pureL (a ++ b)=(AV.pureL a && AV.pureL b)
  | [],b => by simp [AV.pureL]
  | x :: a,b => by simp only [List.cons_append,AV.pureL,pureL_app a b,Bool.and_assoc]
theorem row_len (h:Cl f n):∀ l:List α,(row f l).length=l.length * n
  | [] => by simp [row]
  | x :: l => by rw [row_cons,List.length_append,h.len,row_len h l,List.length_cons,Nat.add_mul,Nat.one_mul,Nat.add_comm]
theorem row_pure (h:Cl f n):∀ l:List α,AV.pureL (row f l)=true
  | [] => rfl
  | x :: l => by rw [row_cons,pureL_app,h.pure,row_pure h l]; rfl
theorem row_keys (h:Cl f n) (l:List α):AV.keysL (row f l)=[]:=AV.keysL_pure _ (row_pure h l)
theorem row_scal (h:Cl f n):∀ l:List α,(row f l).all AV.scal=true
  | [] => rfl
  | x :: l => by rw [row_cons,List.all_append,h.scal,row_scal h l]; rfl
theorem row_all (h:Cl f n) (l:List α):(row f l).take (l.length * n)=row f l:=by rw [List.take_of_length_le]; rw [row_len h]; exact Nat.le_refl _
theorem row_keysr (h:Cl f n) (l:List α) (r:List AV):AV.keysL (row f l ++ r)=AV.keysL r:=by rw [El.keysL_app,row_keys h]; rfl
theorem row_chunk (h:Cl f n):∀ l:List α,chunk true n l.length (row f l)=l.map fun x => .agg (f x)
  | [] => rfl
  | x :: l => by
    have e1:(row f (x :: l)).take n=f x:=by rw [row_cons,← h.len x,List.take_left']; rfl
    have e2:(row f (x :: l)).drop n=row f l:=by rw [row_cons,← h.len x,List.drop_left']; rfl
    rw [List.length_cons,chunk,e1,e2,row_chunk h l,List.map_cons]; rfl
theorem rseal (c:Cl f n) (k:Nat) (h:Heap) (key:Key) (l:List α) (cap:Option Nat) (mt ex:Bool) (hk:lookK h key=some ⟨row f l,true,mt,ex,n,true⟩):sealX (k + 2) h (.ref key 0 l.length cap)=some (.sl false (l.map fun x => .agg (f x)) cap,setK h key ⟨row f l,true,false,ex,n,true⟩):=by
  unfold sealX sealA
  have hp:(AV.ref key 0 l.length cap).pure=false:=rfl
  simp only [hp,Bool.false_eq_true,if_false,hk]
  rw [if_pos ⟨trivial,by rw [row_len c]; omega,by simp⟩]
  simp only [List.drop_zero,row_all c]
  rw [sealL_of_pure k _ _ (row_pure c l)]
  simp only [row_chunk c]
end Rw
namespace F6
open Rw
structure Fld where
  c:Int
  k:Bool
  n:Int
  any:Bool
  opt:Bool
def Fld.cells (x:Fld):List AV:=[.int .u8 x.c,.bool x.k,.int .u32 x.n,.bool x.any,.bool x.opt]
abbrev Fld.av (x:Fld):AV:=.agg x.cells
theorem Fld.cl:Cl Fld.cells 5:=⟨fun _ => rfl,fun _ => rfl,fun _ => rfl⟩
structure Fa where
  t:Int
  m:Int
def Fa.av (x:Fa):AV:=.agg [.int .u8 x.t,.int .u8 x.m]
def Fa.ok (x:Fa):Prop:=(0 ≤ x.t ∧ x.t < 256) ∧ (0 ≤ x.m ∧ x.m < 256)
def Fa.fd (x:Fa):Fld:=⟨(tg x.t).1,(tg x.t).2.1,(tg x.t).2.2,decide (x.m % 4=3),decide (x.m / 4 % 2=1)⟩
theorem at_ (f c) (l:List Fa) (i:Nat) (x:Fa) (h:l[i]? = some x):∀ hp,indexAddrA E 66 (.sl f (l.map Fa.av) c) (.int .i64 i) hp=some (.pel [.int .u8 x.t,.int .u8 x.m]):=by
  intro hp
  have hi:i < l.length:=(List.getElem?_eq_some_iff.1 h).1
  unfold indexAddrA
  simp only [E_ty66,E_ty125]
  rw [if_pos ⟨by omega,by rw [List.length_map]; omega⟩]
  simp only [Int.toNat_natCast,List.getElem?_map,h,Option.map_some]
  rfl
def b43:Code:=lp c43 0
abbrev S0 (f:Bool) (c:Option Nat) (l:List Fa) (i:Nat):St:=⟨[(0,.sl f (l.map Fa.av) c),(3,.sl true [] (some 0)),(4,.int .i64 (i:Int))],[]⟩
abbrev SR (f:Bool) (c:Option Nat) (l:List Fa) (i:Nat) (o:List Fld) (g:Nat):St:=⟨[(0,.sl f (l.map Fa.av) c),(3,.ref (1,39,g) 0 o.length none),(4,.int .i64 (i:Int))],[((1,39,g),⟨row Fld.cells o,true,true,false,5,true⟩)]⟩
abbrev TagC (q:Nat) (x:Int):Prop:=∀ h,aCall E q 0 44 [.int .u8 x] h=some (.ret (.agg [.int .u8 (tg x).1,.bool (tg x).2.1,.int .u32 (tg x).2.2]),h)
theorem go0 (q k1:Nat) (f c) (l:List Fa) (i:Nat) (x:Fa) (hx:l[i]? = some x) (i20:i < 20) (ox:x.ok) (ll:l.length ≤ 9223372036854775807) (T:TagC q x.t):rnd fn43 b43 q k1 (S0 f c l i)=some (.normal,SR f c l (i + 1) [x.fd] 0):=by
  have hi:i < l.length:=(List.getElem?_eq_some_iff.1 hx).1
  have ix:=at_ f c l i x hx
  have w:=w64' ((i:Int) + 1) (by omega) (by omega)
  have i20':(i:Int) < 20:=by omega
  have t1:Int.tmod x.m 4=x.m % 4:=Int.tmod_eq_emod_of_nonneg ox.2.1
  have t2:Int.tdiv x.m 4=x.m / 4:=Int.tdiv_eq_ediv_of_nonneg ox.2.1
  have h0:=ox.2
  have t3:Int.tmod (x.m / 4) 2=x.m / 4 % 2:=Int.tmod_eq_emod_of_nonneg (by omega)
  have w2:(x.m / 4) % 256=x.m / 4:=Int.emod_eq_of_lt (by omega) (by omega)
  simp [b43,lp,lps,c43,↓s_seq,↓s_reg,↓s_regd,↓s_cond,↓s_block,↓s_cons,↓s_consG,s_nil,firstReg,s_gt,s_wb,s_val,s_callP,s_ret,s_rgx,s_sqn,s_cdb,s_bkn,s_skip',s_clean,o_tmp,o_int,l_hit,l_miss,ol_nil,ol_cons,ol_some,x_move,x_assign,x_pick,pk_t,x_bin,bn_s,x_callF,cl_no,x_callB,binA,intOp,AV.pure,AV.pureL,keepT,x_build,bdx,x_buildSlice,bsx,x_load,ldx,x_fieldAddr,x_indexAddr,iax,newK,genOf,setK,lookK,fillA,writeL,writeC,readC,conts,TyI.mk1,fieldAddrA,appendA,copyA,builtinA,AV.cells,gcH,reach,keysT,keepK,inKs,AV.keys,AV.keysL,Ty.isAgg,w_u8,sc_int,sc_bool,i_beq,ix,w,w2,hi,i20',T,t1,t2,t3,row_one,Fld.cells,Fa.fd]
theorem goR (q k1:Nat) (f c) (l:List Fa) (i:Nat) (o:List Fld) (g:Nat) (x:Fa) (hx:l[i]? = some x) (i20:i < 20) (ox:x.ok) (ll:l.length ≤ 9223372036854775807) (lo:o.length ≤ 1000) (T:TagC q x.t):rnd fn43 b43 q k1 (SR f c l i o g)=some (.normal,SR f c l (i + 1) (o ++ [x.fd]) (g + 1)):=by
  have hi:i < l.length:=(List.getElem?_eq_some_iff.1 hx).1
  have ix:=at_ f c l i x hx
  have w:=w64' ((i:Int) + 1) (by omega) (by omega)
  have i20':(i:Int) < 20:=by omega
  have t1:Int.tmod x.m 4=x.m % 4:=Int.tmod_eq_emod_of_nonneg ox.2.1
  have t2:Int.tdiv x.m 4=x.m / 4:=Int.tdiv_eq_ediv_of_nonneg ox.2.1
  have h0:=ox.2
  have t3:Int.tmod (x.m / 4) 2=x.m / 4 % 2:=Int.tmod_eq_emod_of_nonneg (by omega)
  have w2:(x.m / 4) % 256=x.m / 4:=Int.emod_eq_of_lt (by omega) (by omega)
  have cs5:(o.length + 1) * 12 ≤ 70368744177664:=by omega
  have f1:=row_len Fld.cl o
  have f2:=row_keys Fld.cl o
  have f3:=row_all Fld.cl o
  have f4:=row_pure Fld.cl o
  have f5:=row_scal Fld.cl o
  have f6:=fun r => row_keysr Fld.cl o r
  have fd:x.fd.cells=[.int .u8 (tg x.t).1,.bool (tg x.t).2.1,.int .u32 (tg x.t).2.2,.bool (decide (x.m % 4=3)),.bool (decide (x.m / 4 % 2=1))]:=rfl
  simp [b43,lp,lps,c43,↓s_seq,↓s_reg,↓s_regd,↓s_cond,↓s_block,↓s_cons,↓s_consG,s_nil,firstReg,s_gt,s_wb,s_val,s_callP,s_ret,s_rgx,s_sqn,s_cdb,s_bkn,s_skip',s_clean,o_tmp,o_int,l_hit,l_miss,ol_nil,ol_cons,ol_some,x_move,x_assign,x_pick,pk_t,x_bin,bn_s,x_callF,cl_no,x_callB,binA,intOp,AV.pure,AV.pureL,keepT,x_build,bdx,x_buildSlice,bsx,x_load,ldx,x_fieldAddr,x_indexAddr,iax,newK,genOf,setK,lookK,fillA,writeL,writeC,readC,conts,TyI.mk1,fieldAddrA,appendA,copyA,builtinA,AV.cells,gcH,reach,keysT,keepK,inKs,AV.keys,AV.keysL,Ty.isAgg,w_u8,sc_int,sc_bool,i_beq,ix,w,w2,hi,i20',T,t1,t2,t3,row_snoc,fd,f1,f2,f6,cs5]
theorem last0 (q k1:Nat) (f c):rnd fn43 b43 q k1 (S0 f c [] 0)=some (.exit 0,⟨[(0,.sl f [] c),(3,.sl true [] (some 0)),(4,.int .i64 0),(12,.bool false)],[]⟩):=by
  simp [b43,lp,lps,c43,↓s_seq,↓s_reg,↓s_cond,↓s_cons,↓s_consG,s_nil,firstReg,s_gf,s_wb,s_val,s_rgx,s_sqn,s_sqe,s_cdb,s_exit,s_clean,o_tmp,o_int,o_bool,l_hit,l_miss,ol_nil,ol_cons,ol_some,x_move,x_pick,pk_f,x_bin,bn_s,x_callB,binA,intOp,keepT,newK,genOf,setK,lookK,writeC,conts,appendA,copyA,builtinA,AV.cells,gcH,Ty.isAgg]
theorem lastR (q k1:Nat) (f c) (l:List Fa) (i:Nat) (o:List Fld) (g:Nat) (hi:i=min 20 l.length):rnd fn43 b43 q k1 (SR f c l i o g)=some (.exit 0,⟨[(0,.sl f (l.map Fa.av) c),(3,.ref (1,39,g) 0 o.length none),(4,.int .i64 (i:Int)),(12,.bool false)],[((1,39,g),⟨row Fld.cells o,true,true,false,5,true⟩)]⟩):=by
  have f2:=row_keys Fld.cl o
  by_cases h:i < l.length
  · have i20:i=20:=by omega
    subst i20
    have h':(20:Int) < l.length:=by omega
    simp [b43,lp,lps,c43,↓s_seq,↓s_reg,↓s_cond,↓s_cons,↓s_consG,s_nil,firstReg,s_gt,s_wb,s_val,s_rgx,s_sqn,s_sqe,s_cdb,s_exit,s_clean,o_tmp,o_int,l_hit,l_miss,ol_nil,ol_cons,ol_some,x_move,x_pick,pk_t,x_bin,bn_s,x_callB,binA,intOp,keepT,newK,genOf,setK,lookK,writeL,writeC,conts,appendA,copyA,builtinA,AV.cells,gcH,reach,keysT,keepK,inKs,AV.keys,Ty.isAgg,h',f2]
  · simp [b43,lp,lps,c43,↓s_seq,↓s_reg,↓s_cond,↓s_cons,↓s_consG,s_nil,firstReg,s_gf,s_wb,s_val,s_rgx,s_sqn,s_sqe,s_cdb,s_exit,s_clean,o_tmp,o_int,o_bool,l_hit,l_miss,ol_nil,ol_cons,ol_some,x_move,x_pick,pk_f,x_bin,bn_s,x_callB,binA,intOp,keepT,newK,genOf,setK,lookK,writeL,writeC,conts,appendA,copyA,builtinA,AV.cells,gcH,reach,keysT,keepK,inKs,AV.keys,Ty.isAgg,h,f2]
def fds (l:List Fa):List Fld:=(l.take 20).map Fa.fd
theorem fields (f c) (l:List Fa) (hl:∀ x ∈ l,x.ok) (ll:l.length ≤ 9223372036854775807):Con E 60 43 [.sl f (l.map Fa.av) c] (.sl (fds l).isEmpty ((fds l).map Fld.av) (if (fds l).isEmpty then some 0 else none)):=by
  refine con_of E_fn43 (by simp [AV.pureL,AV.pure]) (Nat.le_of_ble_eq_true rfl) rfl rfl (g:=[]) ?_
  rw [body_43,c43]
  cases hl0:l with
  | nil =>
    have L:=aLoop_end (k:=58) (f:=aCode E (aCall E 59) (dcall (aRun E 59)) 59 1 fn43 b43) (cl:=cleanS 1 ((firstReg b43).bind fn43.head)) (last0 59 59 f c) (by simp)
    simp [b43,lp,lps,c43,firstReg,S0] at L
    simp [↓s_seq,↓s_reg,↓s_block,↓s_cons,s_nil,s_loop,firstReg,s_val,s_rgx,s_sqn,s_bke,s_ret',s_finr,s_fin1,s_fix,s_clean,o_tmp,o_int,o_nil,l_hit,l_miss,x_move,x_assign,frame0,resL,resA,results1,AV.pure,keepT,gcH,sl_sl,L,fds]
  | cons a r =>
    rw [← hl0]
    have T:∀ x ∈ l,TagC 59 x.t:=fun x hx h => F1.tag x.t (hl x hx).1.1 (hl x hx).1.2 59 (by omega) 0 h
    have h0:l[0]? = some a:=by rw [hl0]; rfl
    have ma:=List.mem_of_getElem? h0
    have st0:=go0 59 59 f c l 0 a h0 (by omega) (hl a ma) ll (T a ma)
    have gen:∀ (m i:Nat) (o:List Fld) (g k:Nat),i + m=min 20 l.length → o=(l.take i).map Fa.fd → o.length=g + 1 → m < k → aLoop (aCode E (aCall E 59) (dcall (aRun E 59)) 59 1 fn43 b43) (cleanS 1 ((firstReg b43).bind fn43.head)) k (SR f c l i o g)=some (.exit 0,⟨[(0,.sl f (l.map Fa.av) c),(3,.ref (1,39,(fds l).length - 1) 0 (fds l).length none),(4,.int .i64 ((min 20 l.length:Nat):Int)),(12,.bool false)],[((1,39,(fds l).length - 1),⟨row Fld.cells (fds l),true,true,false,5,true⟩)]⟩):=by
      intro m
      induction m with
      | zero =>
        intro i o g k hi ho hg hk
        obtain ⟨k,rfl⟩:∃ j,k=j + 1:=⟨k - 1,by omega⟩
        have e:fds l=o:=by
          rw [ho]; unfold fds
          by_cases h20:20 ≤ l.length
          · rw [show i=20 by omega]
          · rw [List.take_of_length_le (by omega),List.take_of_length_le (by omega)]
        rw [e,show o.length - 1=g by omega]
        have:=aLoop_end (k:=k) (lastR 59 59 f c l i o g (by omega)) (by simp)
        rw [show i=min 20 l.length by omega] at this ⊢
        exact this
      | succ m ih =>
        intro i o g k hi ho hg hk
        obtain ⟨k,rfl⟩:∃ j,k=j + 1:=⟨k - 1,by omega⟩
        have hil:i < l.length:=by omega
        have hx:l[i]? = some l[i]:=List.getElem?_eq_getElem hil
        have mx:=List.mem_of_getElem? hx
        have lo:o.length ≤ 1000:=by rw [ho,List.length_map,List.length_take]; omega
        rw [aLoop_succ (goR 59 59 f c l i o g _ hx (by omega) (hl _ mx) ll lo (T _ mx))]
        refine ih (i + 1) (o ++ [l[i].fd]) (g + 1) k (by omega) ?_ (by rw [List.length_append]; simp; omega) (by omega)
        rw [List.take_add_one,hx,List.map_append,← ho]; rfl
    have hp:0 < l.length:=by rw [hl0]; simp
    have L:=(aLoop_succ (k:=58) (f:=aCode E (aCall E 59) (dcall (aRun E 59)) 59 1 fn43 b43) (cl:=cleanS 1 ((firstReg b43).bind fn43.head)) st0).trans (gen (min 20 l.length - 1) 1 [a.fd] 0 58 (by omega) (by rw [hl0]; rfl) rfl (by omega))
    have ne:fds l ≠ []:=by unfold fds; rw [hl0]; simp
    generalize fds l=o at L ne ⊢
    have e0:o.isEmpty=false:=by cases o with | nil => exact absurd rfl ne | cons x r => rfl
    have f1:=row_len Fld.cl o
    have f2:=row_keys Fld.cl o
    have f4:=row_pure Fld.cl o
    have sx:=fun n h key => Rw.rseal Fld.cl n h key o none true false
    have mp:(o.map fun x => AV.agg x.cells)=o.map Fld.av:=rfl
    simp [b43,lp,lps,c43,firstReg,S0] at L
    simp [↓s_seq,↓s_reg,↓s_block,↓s_cons,s_nil,s_loop,firstReg,s_val,s_rgx,s_sqn,s_bke,s_ret',s_finr,s_fin1,s_fix,s_clean,o_tmp,o_int,o_nil,l_hit,l_miss,x_move,x_assign,frame0,resL,resA,results1,AV.pure,keepT,setK,lookK,gcH,reach,keysT,keepK,inKs,AV.keys,sl_row,sealRow,sealY,L,f1,f2,f4,sx,e0]
end F6
end
section
open Ab Go TabE
attribute [local simp ↓] s_seq s_reg s_regd s_cond s_block s_cons s_consG s_regD
attribute [local simp] s_nil s_loop s_round s_lpn s_lpe s_lpr firstReg s_gt s_gf s_wb s_wu s_val s_valN s_skip s_calls s_callP s_cax lookR flatR pureKs s_ret s_rgx s_sqn s_sqr s_sqe s_cdb s_bkn s_bkr s_bke s_exit s_ret' s_skip' s_finr s_finn s_fin1 s_fix s_clean s_gc0 o_tmp o_int o_bool o_nil o_str o_fn o_nil' l_hit l_miss l_nil ol_nil ol_cons ol_some x_move x_assign x_pick pk_t pk_f x_bin bn_s x_un x_extract x_callF cl_no x_callB x_callBF frzV x_conv cvx convA frame0 binA intOp resL resA results1 sealLW AV.pure AV.pureL keepT x_alloc x_box bxx x_build bdx x_buildSlice bsx x_buildSliceF bsf x_load ldx x_store stx x_slice slx x_fieldAddr x_field x_index ixx x_indexAddr iax x_makeSlice msx x_makeSliceF msf x_nilCheck newK genOf setK lookK fillA writeL writeC readC conts TyI.mk1 sliceA boundsA boundsB fitsA numA indexAddrA fieldAddrA partA fieldA indexA appendA copyA builtinA AV.cells chunk gcH reach keysT keepK inKs AV.keys AV.keysL Ty.isAgg eq1 eqL convA.go ltI w_u8 w_u32 w_u64 w_i64 w_fdiv w_tdiv w_tmod IntKind.bits unA sc_int sc_bool sc_str sc_sl sc_ref sc_ptr sc_pel sc_nilp sc_fn sc_nilf sc_if sc_nili sc_agg sc_tup sc_mem bs_pure bs_kl bs_length bs_cells bs_all sl_row sealRow sealY sl_int sl_bool sl_str sl_sl sl_nilp sl_nilf sl_nili sl_pel sl_agg sl_tup sl_fn sl_if nat_1 bs_cons bs_nil i_beq i_bne x_mkF x_mkI x_tassert x_panic s_pan s_sqp s_bkp s_finp s_fixp s_lpp s_rgp s_retp s_site s_stxN s_stxO x_callT clx El.avs_len s_dyn0 s_rgy barOf dynChk footL dynOK disjK keysOp opVals Op.operands
section
open Ab Go TabE Sp E34 F1 Rw F5 F6
namespace F7
def mt (x:Fld) (y:El):Bool:=x.any || (decide (x.c=y.c) && (decide (x.k=y.k) && decide (x.n=y.n)))
theorem matches_ (x:Fld) (y:El):Con E 10 83 [x.av,y.av] (.bool (mt x y)):=by
  refine con_of E_fn83 (by simp [AV.pureL,AV.pure,El.av_pure,Fld.cells]) (Nat.le_of_ble_eq_true rfl) rfl rfl (g:=[]) ?_
  rw [body_83,c83]
  unfold mt
  cases ha:x.any
  · by_cases a:x.c=y.c <;> by_cases b:x.k=y.k <;> by_cases c:x.n=y.n <;> simp [El.av_eq,Fld.cells,ha,a,b,c,fitZ]
  · simp [El.av_eq,Fld.cells,ha,fitZ]
def sqr (s:List El):List Fld → Nat → List Int → (List Int × Nat) ⊕ (Int × List Int)
  | [],j,o => .inl (o,j)
  | x :: r,j,o => match s[j]? with
    | some y => if mt x y=true then sqr s r (j + 1) (o ++ [(j:Int)]) else if x.opt=true then sqr s r j (o ++ [-1]) else .inr (9,[(j:Int)])
    | none => if x.opt=true then sqr s r j (o ++ [-1]) else .inr (7,[])
theorem fd_at (f c) (l:List Fld) (i:Nat) (x:Fld) (h:l[i]? = some x):∀ hp,indexAddrA E 67 (.sl f (l.map Fld.av) c) (.int .i64 i) hp=some (.pel [.int .u8 x.c,.bool x.k,.int .u32 x.n,.bool x.any,.bool x.opt]):=by
  intro hp
  have hi:i < l.length:=(List.getElem?_eq_some_iff.1 h).1
  unfold indexAddrA
  simp only [E_ty67,E_ty78]
  rw [if_pos ⟨by omega,by rw [List.length_map]; omega⟩]
  simp only [Int.toNat_natCast,List.getElem?_map,h,Option.map_some]
  rfl
def zr (z:Nat):List AV:=List.replicate z (.int .i64 0)
theorem zr_eq (z:Nat):List.replicate z (AV.int .i64 0)=zr z:=rfl
theorem zr_len (z:Nat):(zr z).length=z:=List.length_replicate
theorem zr_ns (z:Nat):zr z=ns (List.replicate z 0):=by simp [zr,ns]
theorem zr_pure (z:Nat):AV.pureL (zr z)=true:=by rw [zr_ns]; exact ns_pure _
theorem zr_keys (z:Nat):AV.keysL (zr z)=[]:=AV.keysL_pure _ (zr_pure z)
abbrev rw_ (o:List Int) (z:Nat):AObj:=⟨ns o ++ zr z,true,true,true,1,false⟩
theorem rw_keys (o z):AV.keysL (ns o ++ zr z)=[]:=by rw [El.keysL_app,ns_keys,zr_keys]; rfl
theorem rw_len (o z):(ns o ++ zr z).length=o.length + z:=by rw [List.length_append,ns_len,zr_len]
theorem rw_take (o:List Int) (z):(ns o ++ zr z).take o.length=ns o:=by rw [← ns_len o,List.take_left']; rfl
theorem rw_drop (o:List Int) (z):(ns o ++ zr (z + 1)).drop (o.length + 1)=zr z:=by
  have:(ns o ++ zr (z + 1)).drop (o.length + 1)=((ns o ++ zr (z + 1)).drop (ns o).length).drop 1:=by rw [List.drop_drop,ns_len]
  rw [this,List.drop_left']; rfl
  rfl
def b45:Code:=lp c45 0
abbrev S (f:Bool) (c:Option Nat) (l:List Fld) (e:El) (i j:Nat) (o:List Int) (z:Nat):St:=⟨[(3,.ptr (1,3,0) 0),(7,.ptr (1,7,0) 0),(8,.int .i64 (j:Int)),(9,.ref (1,26,0) 0 o.length (some l.length)),(27,.sl f (l.map Fld.av) c),(28,.int .i64 (l.length:Int)),(29,.int .i64 (i:Int))],[((1,3,0),bx (ec e)),((1,7,0),bx [.sl true [] (some 0),.int .i64 0]),((1,26,0),rw_ o z)]⟩
abbrev MC (q:Nat) (x:Fld) (y:El):Prop:=∀ h,aCall E q 0 83 [x.av,y.av] h=some (.ret (.bool (mt x y)),h)
abbrev Bad (p:List Int) (e:Int):Option (AExit × St):=some (.ret,⟨[(6,.sl true [] (some 0)),(7,.ptr (1,7,0) 0)],[((1,7,0),bx [.sl p.isEmpty (ns p) (some p.length),.int .i64 e])]⟩)
theorem hit (q k1:Nat) (f c) (l:List Fld) (e y:El) (i j:Nat) (o:List Int) (z:Nat) (x:Fld) (hx:l[i]? = some x) (hy:e.s[j]? = some y) (ll:l.length ≤ 1000) (hz:o.length + (z + 1)=l.length) (ls:e.s.length ≤ 9223372036854775807) (M:MC q x y) (m:mt x y=true) :
    rndO fn45 b45 q k1 (S f c l e i j o (z + 1))=some (.normal,S f c l e (i + 1) (j + 1) (o ++ [(j:Int)]) z):=by
  have hi:i < l.length:=(List.getElem?_eq_some_iff.1 hx).1
  have hj:j < e.s.length:=(List.getElem?_eq_some_iff.1 hy).1
  have ix:=fd_at f c l i x hx
  have iy:=fun hp => El.at_ e.fs e.cs e.s j y hy hp
  have w:=w64' ((i:Int) + 1) (by omega) (by omega)
  have w2:=w64' ((j:Int) + 1) (by omega) (by omega)
  rw [MC,El.av_eq,Fld.av,Fld.cells,m] at M
  have fit:o.length + 1 ≤ l.length:=by omega
  have fit2:o.length ≤ l.length:=by omega
  have k0:=rw_keys o (z + 1)
  have k1':=rw_keys (o ++ [(j:Int)]) z
  have e1:ns (o ++ [(j:Int)])=ns o ++ [.int .i64 (j:Int)]:=ns_app _ _
  rw [e1] at k1'
  simp at k1'
  simp [b45,lp,lps,c45,-indexAddrA,ix,iy,w,w2,hi,hj,M,fit,fit2,k0,k1',e1,rw_len,rw_take,rw_drop,zr_len,hz]
theorem opt (q k1:Nat) (f c) (l:List Fld) (e:El) (i j:Nat) (o:List Int) (z:Nat) (x:Fld) (hx:l[i]? = some x) (ll:l.length ≤ 1000) (hz:o.length + (z + 1)=l.length) (ls:e.s.length ≤ 9223372036854775807) (M:∀ y,e.s[j]? = some y → MC q x y ∧ mt x y=false) (ho:x.opt=true) :
    rndO fn45 b45 q k1 (S f c l e i j o (z + 1))=some (.normal,S f c l e (i + 1) j (o ++ [-1]) z):=by
  have hi:i < l.length:=(List.getElem?_eq_some_iff.1 hx).1
  have ix:=fd_at f c l i x hx
  have w:=w64' ((i:Int) + 1) (by omega) (by omega)
  have fit:o.length + 1 ≤ l.length:=by omega
  have fit2:o.length ≤ l.length:=by omega
  have k0:=rw_keys o (z + 1)
  have k1':=rw_keys (o ++ [-1]) z
  have e1:ns (o ++ [-1])=ns o ++ [.int .i64 (-1)]:=ns_app _ _
  rw [e1] at k1'
  simp at k1'
  cases hy:e.s[j]? with
  | none =>
    have hj:=List.getElem?_eq_none_iff.1 hy
    have hj':¬ j < e.s.length:=by omega
    simp [b45,lp,lps,c45,-indexAddrA,ix,w,hi,hj',ho,fit,fit2,k0,k1',e1,rw_len,rw_take,rw_drop,zr_len,hz]
  | some y =>
    have hj:j < e.s.length:=(List.getElem?_eq_some_iff.1 hy).1
    have iy:=fun hp => El.at_ e.fs e.cs e.s j y hy hp
    obtain ⟨M,m⟩:=M y hy
    rw [MC,El.av_eq,Fld.av,Fld.cells,m,ho] at M
    simp [b45,lp,lps,c45,-indexAddrA,ix,iy,w,hi,hj,M,ho,fit,fit2,k0,k1',e1,rw_len,rw_take,rw_drop,zr_len,hz]
theorem short (q k1:Nat) (f c) (l:List Fld) (e:El) (i:Nat) (o:List Int) (z:Nat) (x:Fld) (hx:l[i]? = some x) (ll:l.length ≤ 1000) (ho:x.opt=false) (F:∀ h,aCall E q 0 82 [.int .i64 7,.sl true [] (some 0)] h=some (.ret (fF [] 7),h)) :
    rndO fn45 b45 q k1 (S f c l e i e.s.length o z)=Bad [] 7:=by
  have hi:i < l.length:=(List.getElem?_eq_some_iff.1 hx).1
  have ix:=fd_at f c l i x hx
  have k0:=rw_keys o z
  simp [fF] at F
  simp [b45,lp,lps,c45,-indexAddrA,ix,hi,ho,k0,F]
theorem wrong (q k1:Nat) (f c) (l:List Fld) (e y:El) (i j:Nat) (o:List Int) (z:Nat) (x:Fld) (hx:l[i]? = some x) (hy:e.s[j]? = some y) (ll:l.length ≤ 1000) (ls:e.s.length ≤ 9223372036854775807) (M:MC q x y) (m:mt x y=false) (ho:x.opt=false) (F:∀ h,aCall E q 0 82 [.int .i64 9,.sl false [.int .i64 (j:Int)] (some 1)] h=some (.ret (fF [(j:Int)] 9),h)) :
    rndO fn45 b45 q k1 (S f c l e i j o z)=Bad [(j:Int)] 9:=by
  have hi:i < l.length:=(List.getElem?_eq_some_iff.1 hx).1
  have hj:j < e.s.length:=(List.getElem?_eq_some_iff.1 hy).1
  have hj2:¬ j=e.s.length:=by omega
  have hj3:¬ (j:Int)=e.s.length:=by omega
  have ix:=fd_at f c l i x hx
  have iy:=fun hp => El.at_ e.fs e.cs e.s j y hy hp
  have k0:=rw_keys o z
  rw [MC,El.av_eq,Fld.av,Fld.cells,m,ho] at M
  simp [fF] at F
  simp [b45,lp,lps,c45,-indexAddrA,ix,iy,hi,hj,hj2,hj3,ho,k0,F,M]
theorem last (q k1:Nat) (f c) (l:List Fld) (e:El) (j:Nat) (o:List Int) (z:Nat):rndO fn45 b45 q k1 (S f c l e l.length j o z)=some (.exit 1,⟨(S f c l e l.length j o z).t ++ [(30,.bool false)],(S f c l e l.length j o z).h⟩):=by
  have k0:=rw_keys o z
  simp [b45,lp,lps,c45,k0]
end F7
end
section
open Ab Go TabE Sp E34 F1 Rw F5 F6 F7
namespace F8
theorem sqr_len (s:List El):∀ (r:List Fld) (j:Nat) (o:List Int) (o':List Int) (j':Nat),j ≤ s.length → sqr s r j o=.inl (o',j') → o'.length=o.length + r.length ∧ j' ≤ s.length
  | [],j,o,o',j',hj,h => by unfold sqr at h; cases h; simp [hj]
  | x :: r,j,o,o',j',hj,h => by
    unfold sqr at h
    cases hy:s[j]? with
    | none =>
      rw [hy] at h
      simp only at h
      split at h
      · have:=sqr_len s r j _ o' j' hj h; simp at this ⊢; omega
      · cases h
    | some y =>
      rw [hy] at h
      have hl:j < s.length:=(List.getElem?_eq_some_iff.1 hy).1
      simp only at h
      split at h
      · have:=sqr_len s r (j + 1) _ o' j' (by omega) h; simp at this ⊢; omega
      · split at h
        · have:=sqr_len s r j _ o' j' hj h; simp at this ⊢; omega
        · cases h
def sq (e:El) (t:Int × Bool × Int) (l:List Fld):List Int ⊕ (Int × List Int) :=
  if 256 < l.length then .inr (3,[]) else if ¬ (e.c=t.1 ∧ e.k=t.2.1 ∧ e.n=t.2.2) then .inr (9,[]) else
  match sqr e.s l 0 [] with
  | .inr p => .inr p
  | .inl (o,j) => if j < e.s.length then .inr (8,[(j:Int)]) else .inl o
def qF:List Int ⊕ (Int × List Int) → AV
  | .inl o => .tup [.sl false (ns o) (some o.length),fF [] 0]
  | .inr (e,p) => .tup [.sl true [] (some 0),fF p e]
abbrev Lp (K:Nat):=aLoop (aCode E (site fn45 (aRun E K)) (dcall (aRun E K)) K 1 fn45 b45) (cleanS 1 ((firstReg b45).bind fn45.head))
theorem loop (K:Nat) (hK:30 ≤ K) (f c) (l:List Fld) (e:El) (ll:l.length ≤ 1000) (ls:e.s.length ≤ 9223372036854775807):∀ (r:List Fld) (i j:Nat) (o:List Int) (k:Nat),l.drop i=r → i + r.length=l.length → j ≤ e.s.length → o.length + r.length=l.length → r.length < k →
    Lp K k (F7.S f c l e i j o r.length)=(match sqr e.s r j o with
      | .inl (o',j') => some (.exit 1,⟨(F7.S f c l e l.length j' o' 0).t ++ [(30,.bool false)],(F7.S f c l e l.length j' o' 0).h⟩)
      | .inr (er,p) => Bad p er)
  | [],i,j,o,k,h1,h2,h3,h4,h5 => by
    obtain ⟨k,rfl⟩:∃ q,k=q + 1:=⟨k - 1,by omega⟩
    simp at h2
    subst h2
    exact aLoop_end (last K K f c l e j o 0) (by simp)
  | x :: r,i,j,o,k,h1,h2,h3,h4,h5 => by
    obtain ⟨k,rfl⟩:∃ q,k=q + 1:=⟨k - 1,by omega⟩
    simp only [List.length_cons] at h2 h4 h5 ⊢
    have hx:l[i]? = some x:=by
      have:=congrArg (fun l => l[0]?) h1
      simpa [List.getElem?_drop] using this
    have hd:l.drop (i + 1)=r:=by
      have:=congrArg List.tail h1
      simpa [List.tail_drop] using this
    have M:∀ y,MC K x y:=fun y h => matches_ x y K (by omega) 0 h
    unfold sqr
    have goOpt:x.opt=true → (∀ y,e.s[j]? = some y → mt x y=false) → Lp K (k + 1) (F7.S f c l e i j o (r.length + 1))=(match sqr e.s r j (o ++ [-1]) with
      | .inl (o',j') => some (.exit 1,⟨(F7.S f c l e l.length j' o' 0).t ++ [(30,.bool false)],(F7.S f c l e l.length j' o' 0).h⟩)
      | .inr (er,p) => Bad p er):=fun ho hm => by
      have I:=loop K hK f c l e ll ls r (i + 1) j (o ++ [-1]) k hd (by omega) h3 (by rw [List.length_append]; simp; omega) (by omega)
      exact (aLoop_succ (opt K K f c l e i j o r.length x hx ll (by omega) ls (fun y hy => ⟨M y,hm y hy⟩) ho)).trans I
    cases hy:e.s[j]? with
    | none =>
      have hj:=List.getElem?_eq_none_iff.1 hy
      obtain rfl:j=e.s.length:=by omega
      simp only
      by_cases ho:x.opt=true
      · rw [if_pos ho]; exact goOpt ho fun y h => by rw [hy] at h; cases h
      · rw [if_neg ho]
        exact aLoop_end (short K K f c l e i o (r.length + 1) x hx ll (by simpa using ho) fun h => fnil 7 K (by omega) 0 h) (by simp)
    | some y =>
      have hj:j < e.s.length:=(List.getElem?_eq_some_iff.1 hy).1
      simp only
      by_cases m:mt x y=true
      · rw [if_pos m]
        have I:=loop K hK f c l e ll ls r (i + 1) (j + 1) (o ++ [(j:Int)]) k hd (by omega) (by omega) (by rw [List.length_append]; simp; omega) (by omega)
        exact (aLoop_succ (hit K K f c l e y i j o r.length x hx hy ll (by omega) ls (M y) m)).trans I
      rw [if_neg m]
      have m':mt x y=false:=by simpa using m
      by_cases ho:x.opt=true
      · rw [if_pos ho]; exact goOpt ho fun y' h => by rw [hy] at h; cases h; exact m'
      · rw [if_neg ho]
        exact aLoop_end (wrong K K f c l e y i j o (r.length + 1) x hx hy ll ls (M y) m' (by simpa using ho) fun h => fone 9 j (some 1) K (by omega) 0 h) (by simp)
theorem sequence (f c) (l:List Fld) (e:El) (t:Int × Bool × Int) (ls:e.s.length ≤ 9223372036854775807) (l2:l.length ≤ 9223372036854775807):Con E (l.length + 60) 45 [e.av,.agg [.int .u8 t.1,.bool t.2.1,.int .u32 t.2.2],.sl f (l.map Fld.av) c] (qF (sq e t l)):=by
  obtain ⟨K,hK⟩:∃ K,l.length + 59=K:=⟨_,rfl⟩
  have eK:l.length + 60=K + 1:=by omega
  rw [eK]
  have f3:=fnil 3 K (by omega) 0
  have f9:=fnil 9 K (by omega) 0
  try simp [fF] at f3
  try simp [fF] at f9
  refine con_ofO E_fn45 (by simp [AV.pureL,AV.pure,El.av_pure]) (Nat.le_of_ble_eq_true rfl) rfl (g:=[]) ?_
  rw [body_45,c45]
  unfold sq
  by_cases big:256 < l.length
  · have big':(256:Int) < l.length:=by omega
    rw [if_pos big]
    simp [El.av_eq,big,big',f3,qF]
  rw [if_neg big]
  have big':¬ (256:Int) < l.length:=by omega
  by_cases a:e.c=t.1
  case neg => simp [El.av_eq,big,big',a,f9,qF,fitZ]
  by_cases b:e.k=t.2.1
  case neg => simp [El.av_eq,big,big',a,b,f9,qF,fitZ]
  by_cases d:e.n=t.2.2
  case neg => simp [El.av_eq,big,big',a,b,d,f9,qF,fitZ]
  rw [if_neg (fun h => h ⟨a,b,d⟩)]
  have L:=loop K (by omega) f c l e (by omega) ls l 0 0 [] K rfl (by omega) (by omega) (by simp) (by omega)
  have zz:=zr_eq l.length
  have mk:(l.length:Int) ≤ 70368744177664:=by omega
  have mk2:(l.length:Int) * 8 ≤ 70368744177664:=by omega
  have n0:(0:Int) ≤ (l.length:Int):=by omega
  have k0:=rw_keys [] l.length
  cases hr:sqr e.s l 0 [] with
  | inr p =>
    obtain ⟨er,p⟩:=p
    rw [hr] at L
    simp only [qF,fF]
    simp [F8.Lp,b45,lp,lps,c45,firstReg,F7.S,bx,ec,a,b,d,rw_] at L
    simp at k0
    simp [El.av_eq,-s_round,big,big',a,b,d,fitZ,L,zz,mk,mk2,k0,zr_len,zr_pure]
  | inl p =>
    obtain ⟨o,j⟩:=p
    have ln:=sqr_len e.s l 0 [] o j (by omega) hr
    simp at ln
    rw [hr] at L
    simp [F8.Lp,b45,lp,lps,c45,firstReg,F7.S,bx,ec,a,b,d,rw_] at L
    simp at k0
    have z0:zr 0=[]:=rfl
    rw [z0] at L
    simp at L
    have kj:=ns_keys o
    have pj:=ns_pure o
    have lj:=ns_len o
    simp only
    by_cases hj:j < e.s.length
    · have hj':(j:Int) < e.s.length:=by omega
      have f8:=fone 8 j (some 1) K (by omega) 0
      simp [fF] at f8
      rw [if_pos hj,qF]
      simp [El.av_eq,-s_round,big,big',a,b,d,fitZ,L,zz,mk,mk2,k0,zr_len,zr_pure,hj,hj',f8,kj,pj]
    · have hj':¬ (j:Int) < e.s.length:=by omega
      rw [if_neg hj,qF]
      simp [El.av_eq,-s_round,big,big',a,b,d,fitZ,L,zz,mk,mk2,k0,zr_len,zr_pure,hj,hj',kj,pj,lj,ln.1]
end F8
end
section
open Ab Go TabE Sp E34 F1 Rw F5 F6 F7 F8
namespace F9
def b46:Code:=lp c46 0
abbrev S0 (f:Bool) (c:Option Nat) (l:List Fld) (e:El) (i j:Nat):St:=⟨[(2,.sl f (l.map Fld.av) c),(3,.ptr (1,3,0) 0),(7,.ptr (1,7,0) 0),(8,.sl true [] (some 0)),(9,.int .i64 (j:Int)),(10,.int .i64 (i:Int))],[((1,3,0),bx (ec e)),((1,7,0),bx [.sl true [] (some 0),.int .i64 0])]⟩
abbrev SR (f:Bool) (c:Option Nat) (l:List Fld) (e:El) (i j:Nat) (o:List Int) (key:Key):St:=⟨[(2,.sl f (l.map Fld.av) c),(3,.ptr (1,3,0) 0),(7,.ptr (1,7,0) 0),(8,.ref key 0 o.length none),(9,.int .i64 (j:Int)),(10,.int .i64 (i:Int))],[((1,3,0),bx (ec e)),((1,7,0),bx [.sl true [] (some 0),.int .i64 0]),(key,⟨ns o,true,true,false,1,false⟩)]⟩
abbrev Ky (key:Key):Prop:=∃ g,key=(1,55,g) ∨ key=(1,65,g)
abbrev Bad (p:List Int) (e:Int):Option (AExit × St):=some (.ret,⟨[(6,.sl true [] (some 0)),(7,.ptr (1,7,0) 0)],[((1,7,0),bx [.sl p.isEmpty (ns p) (if p.isEmpty then some 0 else none),.int .i64 e])]⟩)
theorem mt_cases (x:Fld) (y:El):(F7.mt x y=true ∧ (x.any=true ∨ (x.any=false ∧ x.c=y.c ∧ x.k=y.k ∧ x.n=y.n))) ∨ (F7.mt x y=false ∧ x.any=false ∧ (¬ x.c=y.c ∨ (x.c=y.c ∧ ¬ x.k=y.k) ∨ (x.c=y.c ∧ x.k=y.k ∧ ¬ x.n=y.n))):=by
  unfold F7.mt
  cases ha:x.any
  · by_cases a:x.c=y.c
    · by_cases b:x.k=y.k
      · by_cases c:x.n=y.n
        · exact .inl ⟨by simp [a,b,c],.inr ⟨rfl,a,b,c⟩⟩
        · exact .inr ⟨by simp [a,b,c],rfl,.inr (.inr ⟨a,b,c⟩)⟩
      · exact .inr ⟨by simp [a,b],rfl,.inr (.inl ⟨a,b⟩)⟩
    · exact .inr ⟨by simp [a],rfl,.inl a⟩
  · exact .inl ⟨by simp,.inl rfl⟩
theorem hit0 (q k1:Nat) (f c) (l:List Fld) (e y:El) (i j:Nat) (x:Fld) (hx:l[i]? = some x) (hy:e.s[j]? = some y) (ll:l.length ≤ 1000) (ls:e.s.length ≤ 9223372036854775807) (m:F7.mt x y=true) :
    rnd fn46 b46 q k1 (S0 f c l e i j)=some (.normal,SR f c l e (i + 1) (j + 1) [(j:Int)] (1,55,0)):=by
  have hi:i < l.length:=(List.getElem?_eq_some_iff.1 hx).1
  have hj:j < e.s.length:=(List.getElem?_eq_some_iff.1 hy).1
  have ix:=fd_at f c l i x hx
  have iy:=fun hp => El.at_ e.fs e.cs e.s j y hy hp
  have w:=w64' ((i:Int) + 1) (by omega) (by omega)
  have w2:=w64' ((j:Int) + 1) (by omega) (by omega)
  rcases mt_cases x y with ⟨_,ha | ⟨ha,a1,a2,a3⟩⟩ | ⟨h,_⟩
  · simp [b46,lp,lps,c46,-indexAddrA,ix,iy,w,w2,hi,hj,ha]
  · simp [b46,lp,lps,c46,-indexAddrA,ix,iy,w,w2,hi,hj,ha,a1,a2,a3,fitZ]
  · rw [m] at h; cases h
theorem hitR (q k1:Nat) (f c) (l:List Fld) (e y:El) (i j:Nat) (o:List Int) (key:Key) (hk:Ky key) (x:Fld) (hx:l[i]? = some x) (hy:e.s[j]? = some y) (ll:l.length ≤ 1000) (lo:o.length ≤ 1000) (ls:e.s.length ≤ 9223372036854775807) (m:F7.mt x y=true) :
    ∃ key',Ky key' ∧ rnd fn46 b46 q k1 (SR f c l e i j o key)=some (.normal,SR f c l e (i + 1) (j + 1) (o ++ [(j:Int)]) key'):=by
  have hi:i < l.length:=(List.getElem?_eq_some_iff.1 hx).1
  have hj:j < e.s.length:=(List.getElem?_eq_some_iff.1 hy).1
  have ix:=fd_at f c l i x hx
  have iy:=fun hp => El.at_ e.fs e.cs e.s j y hy hp
  have w:=w64' ((i:Int) + 1) (by omega) (by omega)
  have w2:=w64' ((j:Int) + 1) (by omega) (by omega)
  have cs5:(o.length + 1) * 8 ≤ 70368744177664:=by omega
  have k0:=ns_keys o
  have p0:=ns_pure o
  have s0:=ns_scal o
  have l0:=ns_len o
  have k2:=ns_keys (o ++ [(j:Int)])
  have e1:ns (o ++ [(j:Int)])=ns o ++ [.int .i64 (j:Int)]:=ns_app _ _
  rw [e1] at k2
  refine ⟨(1,55,if key.2.1=55 then key.2.2 + 1 else 0),⟨_,.inl rfl⟩,?_⟩
  rcases mt_cases x y with ⟨_,ha | ⟨ha,a1,a2,a3⟩⟩ | ⟨h,_⟩
  · obtain ⟨g,rfl | rfl⟩:=hk <;> simp [b46,lp,lps,c46,-indexAddrA,ix,iy,w,w2,hi,hj,ha,cs5,k0,p0,s0,l0,k2,e1]
  · obtain ⟨g,rfl | rfl⟩:=hk <;> simp [b46,lp,lps,c46,-indexAddrA,ix,iy,w,w2,hi,hj,ha,a1,a2,a3,fitZ,cs5,k0,p0,s0,l0,k2,e1]
  · rw [m] at h; cases h
theorem opt0 (q k1:Nat) (f c) (l:List Fld) (e:El) (i j:Nat) (x:Fld) (hx:l[i]? = some x) (ll:l.length ≤ 1000) (ls:e.s.length ≤ 9223372036854775807) (M:∀ y,e.s[j]? = some y → F7.mt x y=false) (ho:x.opt=true) :
    rnd fn46 b46 q k1 (S0 f c l e i j)=some (.normal,SR f c l e (i + 1) j [-1] (1,65,0)):=by
  have hi:i < l.length:=(List.getElem?_eq_some_iff.1 hx).1
  have ix:=fd_at f c l i x hx
  have w:=w64' ((i:Int) + 1) (by omega) (by omega)
  cases hy:e.s[j]? with
  | none =>
    have hj:=List.getElem?_eq_none_iff.1 hy
    have hj':¬ j < e.s.length:=by omega
    simp [b46,lp,lps,c46,-indexAddrA,ix,w,hi,hj',ho]
  | some y =>
    have hj:j < e.s.length:=(List.getElem?_eq_some_iff.1 hy).1
    have iy:=fun hp => El.at_ e.fs e.cs e.s j y hy hp
    rcases mt_cases x y with ⟨h,_⟩ | ⟨_,ha,a1 | ⟨a1,a2⟩ | ⟨a1,a2,a3⟩⟩
    · rw [M y hy] at h; cases h
    · simp [b46,lp,lps,c46,-indexAddrA,ix,iy,w,hi,hj,ho,ha,a1,fitZ]
    · simp [b46,lp,lps,c46,-indexAddrA,ix,iy,w,hi,hj,ho,ha,a1,a2,fitZ]
    · simp [b46,lp,lps,c46,-indexAddrA,ix,iy,w,hi,hj,ho,ha,a1,a2,a3,fitZ]
theorem optR (q k1:Nat) (f c) (l:List Fld) (e:El) (i j:Nat) (o:List Int) (key:Key) (hk:Ky key) (x:Fld) (hx:l[i]? = some x) (ll:l.length ≤ 1000) (lo:o.length ≤ 1000) (ls:e.s.length ≤ 9223372036854775807) (M:∀ y,e.s[j]? = some y → F7.mt x y=false) (ho:x.opt=true) :
    ∃ key',Ky key' ∧ rnd fn46 b46 q k1 (SR f c l e i j o key)=some (.normal,SR f c l e (i + 1) j (o ++ [-1]) key'):=by
  have hi:i < l.length:=(List.getElem?_eq_some_iff.1 hx).1
  have ix:=fd_at f c l i x hx
  have w:=w64' ((i:Int) + 1) (by omega) (by omega)
  have cs5:(o.length + 1) * 8 ≤ 70368744177664:=by omega
  have k0:=ns_keys o
  have p0:=ns_pure o
  have s0:=ns_scal o
  have l0:=ns_len o
  have k2:=ns_keys (o ++ [-1])
  have e1:ns (o ++ [-1])=ns o ++ [.int .i64 (-1)]:=ns_app _ _
  rw [e1] at k2
  refine ⟨(1,65,if key.2.1=65 then key.2.2 + 1 else 0),⟨_,.inr rfl⟩,?_⟩
  cases hy:e.s[j]? with
  | none =>
    have hj:=List.getElem?_eq_none_iff.1 hy
    have hj':¬ j < e.s.length:=by omega
    obtain ⟨g,rfl | rfl⟩:=hk <;> simp [b46,lp,lps,c46,-indexAddrA,ix,w,hi,hj',ho,cs5,k0,p0,s0,l0,k2,e1]
  | some y =>
    have hj:j < e.s.length:=(List.getElem?_eq_some_iff.1 hy).1
    have iy:=fun hp => El.at_ e.fs e.cs e.s j y hy hp
    rcases mt_cases x y with ⟨h,_⟩ | ⟨_,ha,a1 | ⟨a1,a2⟩ | ⟨a1,a2,a3⟩⟩
    · rw [M y hy] at h; cases h
    · obtain ⟨g,rfl | rfl⟩:=hk <;> simp [b46,lp,lps,c46,-indexAddrA,ix,iy,w,hi,hj,ho,ha,a1,fitZ,cs5,k0,p0,s0,l0,k2,e1]
    · obtain ⟨g,rfl | rfl⟩:=hk <;> simp [b46,lp,lps,c46,-indexAddrA,ix,iy,w,hi,hj,ho,ha,a1,a2,fitZ,cs5,k0,p0,s0,l0,k2,e1]
    · obtain ⟨g,rfl | rfl⟩:=hk <;> simp [b46,lp,lps,c46,-indexAddrA,ix,iy,w,hi,hj,ho,ha,a1,a2,a3,fitZ,cs5,k0,p0,s0,l0,k2,e1]
end F9
end
section
open Ab Go TabE Sp E34 F1 Rw F5 F6 F7 F8 F9
namespace F10
abbrev RC (q:Nat) (e x:Int) (v:AV):Prop:=∀ h,aCall E q 0 67 [.int .i64 e,.int .i64 x] h=some (.ret v,h)
theorem short0 (q k1:Nat) (f c) (l:List Fld) (e:El) (i:Nat) (x:Fld) (hx:l[i]? = some x) (ho:x.opt=false) (F:RC q 7 (-1) (fR [] 7)) :
    rnd fn46 b46 q k1 (F9.S0 f c l e i e.s.length)=F9.Bad [] 7:=by
  have hi:i < l.length:=(List.getElem?_eq_some_iff.1 hx).1
  have ix:=fd_at f c l i x hx
  unfold RC at F
  try simp [fR] at F
  simp [b46,lp,lps,c46,-indexAddrA,ix,hi,ho,F]
theorem shortR (q k1:Nat) (f c) (l:List Fld) (e:El) (i:Nat) (o:List Int) (key:Key) (hk:Ky key) (x:Fld) (hx:l[i]? = some x) (ho:x.opt=false) (F:RC q 7 (-1) (fR [] 7)) :
    rnd fn46 b46 q k1 (F9.SR f c l e i e.s.length o key)=F9.Bad [] 7:=by
  have hi:i < l.length:=(List.getElem?_eq_some_iff.1 hx).1
  have ix:=fd_at f c l i x hx
  have k0:=ns_keys o
  unfold RC at F
  try simp [fR] at F
  obtain ⟨g,rfl | rfl⟩:=hk <;> simp [b46,lp,lps,c46,-indexAddrA,ix,hi,ho,F,k0]
theorem wrong0 (q k1:Nat) (f c) (l:List Fld) (e y:El) (i j:Nat) (x:Fld) (hx:l[i]? = some x) (hy:e.s[j]? = some y) (ls:e.s.length ≤ 9223372036854775807) (m:F7.mt x y=false) (ho:x.opt=false) (F:RC q 9 j (fR [(j:Int)] 9)) :
    rnd fn46 b46 q k1 (F9.S0 f c l e i j)=F9.Bad [(j:Int)] 9:=by
  have hi:i < l.length:=(List.getElem?_eq_some_iff.1 hx).1
  have hj:j < e.s.length:=(List.getElem?_eq_some_iff.1 hy).1
  have hj2:¬ j=e.s.length:=by omega
  have hj3:¬ (j:Int)=e.s.length:=by omega
  have ix:=fd_at f c l i x hx
  have iy:=fun hp => El.at_ e.fs e.cs e.s j y hy hp
  unfold RC at F
  try simp [fR] at F
  rcases mt_cases x y with ⟨h,_⟩ | ⟨_,ha,a1 | ⟨a1,a2⟩ | ⟨a1,a2,a3⟩⟩
  · rw [m] at h; cases h
  · simp [b46,lp,lps,c46,-indexAddrA,ix,iy,hi,hj,hj2,hj3,ho,ha,a1,fitZ,F]
  · simp [b46,lp,lps,c46,-indexAddrA,ix,iy,hi,hj,hj2,hj3,ho,ha,a1,a2,fitZ,F]
  · simp [b46,lp,lps,c46,-indexAddrA,ix,iy,hi,hj,hj2,hj3,ho,ha,a1,a2,a3,fitZ,F]
theorem wrongR (q k1:Nat) (f c) (l:List Fld) (e y:El) (i j:Nat) (o:List Int) (key:Key) (hk:Ky key) (x:Fld) (hx:l[i]? = some x) (hy:e.s[j]? = some y) (ls:e.s.length ≤ 9223372036854775807) (m:F7.mt x y=false) (ho:x.opt=false) (F:RC q 9 j (fR [(j:Int)] 9)) :
    rnd fn46 b46 q k1 (F9.SR f c l e i j o key)=F9.Bad [(j:Int)] 9:=by
  have hi:i < l.length:=(List.getElem?_eq_some_iff.1 hx).1
  have hj:j < e.s.length:=(List.getElem?_eq_some_iff.1 hy).1
  have hj2:¬ j=e.s.length:=by omega
  have hj3:¬ (j:Int)=e.s.length:=by omega
  have ix:=fd_at f c l i x hx
  have iy:=fun hp => El.at_ e.fs e.cs e.s j y hy hp
  have k0:=ns_keys o
  unfold RC at F
  try simp [fR] at F
  rcases mt_cases x y with ⟨h,_⟩ | ⟨_,ha,a1 | ⟨a1,a2⟩ | ⟨a1,a2,a3⟩⟩
  · rw [m] at h; cases h
  · obtain ⟨g,rfl | rfl⟩:=hk <;> simp [b46,lp,lps,c46,-indexAddrA,ix,iy,hi,hj,hj2,hj3,ho,ha,a1,fitZ,F,k0]
  · obtain ⟨g,rfl | rfl⟩:=hk <;> simp [b46,lp,lps,c46,-indexAddrA,ix,iy,hi,hj,hj2,hj3,ho,ha,a1,a2,fitZ,F,k0]
  · obtain ⟨g,rfl | rfl⟩:=hk <;> simp [b46,lp,lps,c46,-indexAddrA,ix,iy,hi,hj,hj2,hj3,ho,ha,a1,a2,a3,fitZ,F,k0]
theorem last0 (q k1:Nat) (f c) (l:List Fld) (e:El) (j:Nat):rnd fn46 b46 q k1 (F9.S0 f c l e l.length j)=some (.exit 0,⟨(F9.S0 f c l e l.length j).t ++ [(23,.bool false)],(F9.S0 f c l e l.length j).h⟩):=by
  simp [b46,lp,lps,c46]
theorem lastR (q k1:Nat) (f c) (l:List Fld) (e:El) (j:Nat) (o:List Int) (key:Key) (hk:Ky key):rnd fn46 b46 q k1 (F9.SR f c l e l.length j o key)=some (.exit 0,⟨(F9.SR f c l e l.length j o key).t ++ [(23,.bool false)],(F9.SR f c l e l.length j o key).h⟩):=by
  have k0:=ns_keys o
  obtain ⟨g,rfl | rfl⟩:=hk <;> simp [b46,lp,lps,c46,k0]
def Sx (f:Bool) (c:Option Nat) (l:List Fld) (e:El) (i j:Nat) (o:List Int) (key:Key):St:=if o=[] then F9.S0 f c l e i j else F9.SR f c l e i j o key
abbrev Lp (K:Nat):=aLoop (aCode E (aCall E K) (dcall (aRun E K)) K 1 fn46 b46) (cleanS 1 ((firstReg b46).bind fn46.head))
theorem loop (K:Nat) (hK:30 ≤ K) (f c) (l:List Fld) (e:El) (ll:l.length ≤ 256) (ls:e.s.length ≤ 9223372036854775807):∀ (r:List Fld) (i j:Nat) (o:List Int) (key:Key) (k:Nat),l.drop i=r → i + r.length=l.length → j ≤ e.s.length → o.length + r.length=l.length → Ky key → r.length < k →
    (match sqr e.s r j o with
      | .inl (o',j') => ∃ key',Ky key' ∧ F10.Lp K k (Sx f c l e i j o key)=some (.exit 0,⟨(Sx f c l e l.length j' o' key').t ++ [(23,.bool false)],(Sx f c l e l.length j' o' key').h⟩)
      | .inr (er,p) => F10.Lp K k (Sx f c l e i j o key)=F9.Bad p er)
  | [],i,j,o,key,k,h1,h2,h3,h4,hk,h5 => by
    obtain ⟨k,rfl⟩:∃ q,k=q + 1:=⟨k - 1,by omega⟩
    simp at h2
    subst h2
    refine ⟨key,hk,?_⟩
    unfold Sx
    by_cases o0:o=[]
    · rw [if_pos o0]; exact aLoop_end (last0 K K f c l e j) (by simp)
    · rw [if_neg o0]; exact aLoop_end (lastR K K f c l e j o key hk) (by simp)
  | x :: r,i,j,o,key,k,h1,h2,h3,h4,hk,h5 => by
    obtain ⟨k,rfl⟩:∃ q,k=q + 1:=⟨k - 1,by omega⟩
    simp only [List.length_cons] at h2 h4 h5
    have hx:l[i]? = some x:=by
      have:=congrArg (fun l => l[0]?) h1
      simpa [List.getElem?_drop] using this
    have hd:l.drop (i + 1)=r:=by
      have:=congrArg List.tail h1
      simpa [List.tail_drop] using this
    unfold sqr
    have nx:∀ (v:Int) (j':Nat),j' ≤ e.s.length → (o=[] → ∃ key',Ky key' ∧ rnd fn46 b46 K K (F9.S0 f c l e i j)=some (.normal,F9.SR f c l e (i + 1) j' [v] key')) → (o ≠ [] → ∃ key',Ky key' ∧ rnd fn46 b46 K K (F9.SR f c l e i j o key)=some (.normal,F9.SR f c l e (i + 1) j' (o ++ [v]) key')) →
        (match sqr e.s r j' (o ++ [v]) with
          | .inl (o',j') => ∃ key',Ky key' ∧ F10.Lp K (k + 1) (Sx f c l e i j o key)=some (.exit 0,⟨(Sx f c l e l.length j' o' key').t ++ [(23,.bool false)],(Sx f c l e l.length j' o' key').h⟩)
          | .inr (er,p) => F10.Lp K (k + 1) (Sx f c l e i j o key)=F9.Bad p er):=by
      intro v j' hj' c1 c2
      have st:∃ key',Ky key' ∧ F10.Lp K (k + 1) (Sx f c l e i j o key)=F10.Lp K k (Sx f c l e (i + 1) j' (o ++ [v]) key'):=by
        have ne:¬ (o ++ [v]=[]):=by simp
        by_cases o0:o=[]
        · obtain ⟨key',q1,q2⟩:=c1 o0
          refine ⟨key',q1,?_⟩
          unfold Sx
          rw [if_pos o0,if_neg ne,o0]
          exact aLoop_succ q2
        · obtain ⟨key',q1,q2⟩:=c2 o0
          refine ⟨key',q1,?_⟩
          unfold Sx
          rw [if_neg o0,if_neg ne]
          exact aLoop_succ q2
      obtain ⟨key',q1,q2⟩:=st
      have I:=loop K hK f c l e ll ls r (i + 1) j' (o ++ [v]) key' k hd (by omega) hj' (by rw [List.length_append]; simp; omega) q1 (by omega)
      rw [q2]
      exact I
    have lo:o.length ≤ 1000:=by omega
    cases hy:e.s[j]? with
    | none =>
      have hj:=List.getElem?_eq_none_iff.1 hy
      obtain rfl:j=e.s.length:=by omega
      simp only
      by_cases ho:x.opt=true
      · rw [if_pos ho]
        exact nx (-1) e.s.length (by omega) (fun _ => ⟨_,⟨0,.inr rfl⟩,opt0 K K f c l e i e.s.length x hx (by omega) ls (fun y h => by rw [hy] at h; cases h) ho⟩) (fun _ => optR K K f c l e i e.s.length o key hk x hx (by omega) lo ls (fun y h => by rw [hy] at h; cases h) ho)
      · rw [if_neg ho]
        have ho':x.opt=false:=by simpa using ho
        have F:RC K 7 (-1) (fR [] 7):=fun h => rnil 7 (-1) (by omega) K (by omega) 0 h
        show F10.Lp K (k + 1) (Sx f c l e i e.s.length o key)=F9.Bad [] 7
        unfold Sx
        by_cases o0:o=[]
        · rw [if_pos o0]; exact aLoop_end (short0 K K f c l e i x hx ho' F) (by simp)
        · rw [if_neg o0]; exact aLoop_end (shortR K K f c l e i o key hk x hx ho' F) (by simp)
    | some y =>
      have hj:j < e.s.length:=(List.getElem?_eq_some_iff.1 hy).1
      simp only
      by_cases m:F7.mt x y=true
      · rw [if_pos m]
        exact nx j (j + 1) (by omega) (fun _ => ⟨_,⟨0,.inl rfl⟩,hit0 K K f c l e y i j x hx hy (by omega) ls m⟩) (fun _ => hitR K K f c l e y i j o key hk x hx hy (by omega) lo ls m)
      rw [if_neg m]
      have m':F7.mt x y=false:=by simpa using m
      by_cases ho:x.opt=true
      · rw [if_pos ho]
        exact nx (-1) j (by omega) (fun _ => ⟨_,⟨0,.inr rfl⟩,opt0 K K f c l e i j x hx (by omega) ls (fun y' h => by rw [hy] at h; cases h; exact m') ho⟩) (fun _ => optR K K f c l e i j o key hk x hx (by omega) lo ls (fun y' h => by rw [hy] at h; cases h; exact m') ho)
      · rw [if_neg ho]
        have ho':x.opt=false:=by simpa using ho
        have F:RC K 9 j (fR [(j:Int)] 9):=fun h => rone 9 j (by omega) K (by omega) 0 h
        show F10.Lp K (k + 1) (Sx f c l e i j o key)=F9.Bad [(j:Int)] 9
        unfold Sx
        by_cases o0:o=[]
        · rw [if_pos o0]; exact aLoop_end (wrong0 K K f c l e y i j x hx hy ls m' ho' F) (by simp)
        · rw [if_neg o0]; exact aLoop_end (wrongR K K f c l e y i j o key hk x hx hy ls m' ho' F) (by simp)
def qR:List Int ⊕ (Int × List Int) → AV
  | .inl o => .tup [.sl o.isEmpty (ns o) (if o.isEmpty then some 0 else none),fR [] 0]
  | .inr (e,p) => .tup [.sl true [] (some 0),fR p e]
theorem rsequence (f c) (l:List Fld) (e:El) (t:Int × Bool × Int) (ls:e.s.length ≤ 9223372036854775807) (l2:l.length ≤ 9223372036854775807):Con E (l.length + 60) 46 [e.av,.agg [.int .u8 t.1,.bool t.2.1,.int .u32 t.2.2],.sl f (l.map Fld.av) c] (qR (sq e t l)):=by
  obtain ⟨K,hK⟩:∃ K,l.length + 59=K:=⟨_,rfl⟩
  have eK:l.length + 60=K + 1:=by omega
  rw [eK]
  have f3:=rnil 3 (-1) (by omega) K (by omega) 0
  have f9:=rnil 9 (-1) (by omega) K (by omega) 0
  try simp [fR] at f3
  try simp [fR] at f9
  refine con_of E_fn46 (by simp [AV.pureL,AV.pure,El.av_pure]) (Nat.le_of_ble_eq_true rfl) rfl rfl (g:=[]) ?_
  rw [body_46,c46]
  unfold sq
  by_cases big:256 < l.length
  · have big':(256:Int) < l.length:=by omega
    rw [if_pos big]
    simp [El.av_eq,big,big',f3,qR]
  rw [if_neg big]
  have big':¬ (256:Int) < l.length:=by omega
  by_cases a:e.c=t.1
  case neg => simp [El.av_eq,big,big',a,f9,qR,fitZ]
  by_cases b:e.k=t.2.1
  case neg => simp [El.av_eq,big,big',a,b,f9,qR,fitZ]
  by_cases d:e.n=t.2.2
  case neg => simp [El.av_eq,big,big',a,b,d,f9,qR,fitZ]
  rw [if_neg (fun h => h ⟨a,b,d⟩)]
  have L:=F10.loop K (by omega) f c l e (by omega) ls l 0 0 [] (1,55,0) K rfl (by omega) (by omega) (by simp) ⟨0,.inl rfl⟩ (by omega)
  rw [Sx,if_pos rfl] at L
  cases hr:sqr e.s l 0 [] with
  | inr p =>
    obtain ⟨er,p⟩:=p
    rw [hr] at L
    simp only [qR,fR]
    simp [F10.Lp,b46,lp,lps,c46,firstReg,F9.S0,bx,ec,a,b,d] at L
    simp [El.av_eq,-s_round,big,big',a,b,d,fitZ,L]
  | inl p =>
    obtain ⟨o,j⟩:=p
    have ln:=sqr_len e.s l 0 [] o j (by omega) hr
    simp at ln
    rw [hr] at L
    simp only at L
    obtain ⟨key,hk,L⟩:=L
    unfold Sx at L
    have kj:=ns_keys o
    have pj:=ns_pure o
    have lj:=ns_len o
    simp only
    by_cases o0:o=[]
    · subst o0
      rw [if_pos rfl] at L
      simp [F10.Lp,b46,lp,lps,c46,firstReg,F9.S0,bx,ec,a,b,d] at L
      by_cases hj:j < e.s.length
      · have hj':(j:Int) < e.s.length:=by omega
        have f8:=rone 8 j (by omega) K (by omega) 0
        try simp [fR] at f8
        rw [if_pos hj,qR]
        simp [El.av_eq,-s_round,big,big',a,b,d,fitZ,L,hj,hj',f8]
      · have hj':¬ (j:Int) < e.s.length:=by omega
        rw [if_neg hj,qR]
        simp [El.av_eq,-s_round,big,big',a,b,d,fitZ,L,hj,hj']
    · have e0:o.isEmpty=false:=by cases o with | nil => exact absurd rfl o0 | cons x r => rfl
      rw [if_neg o0] at L
      simp [F10.Lp,b46,lp,lps,c46,firstReg,F9.S0,F9.SR,bx,ec,a,b,d] at L
      by_cases hj:j < e.s.length
      · have hj':(j:Int) < e.s.length:=by omega
        have f8:=rone 8 j (by omega) K (by omega) 0
        try simp [fR] at f8
        rw [if_pos hj,qR]
        obtain ⟨g,rfl | rfl⟩:=hk <;> simp [El.av_eq,-s_round,big,big',a,b,d,fitZ,L,hj,hj',f8,kj]
      · have hj':¬ (j:Int) < e.s.length:=by omega
        rw [if_neg hj,qR]
        obtain ⟨g,rfl | rfl⟩:=hk <;> simp [El.av_eq,-s_round,big,big',a,b,d,fitZ,L,hj,hj',kj,pj,lj,e0,o0]
end F10
end
end
section
open Ab Go TabE Sp E34 F1 F2 F4 F5 F6 F7 F8
namespace F11
def ck (s:List El):List Fld → List Int → Nat → Option Nat
  | [],[],j => some j
  | x :: r,v :: o,j => if v = -1 ∧ x.opt=true then ck s r o j else match s[j]? with
    | some y => if v=j ∧ F7.mt x y=true then ck s r o (j + 1) else none
    | none => none
  | _,_,_ => none
theorem sqr_ck (s:List El):∀ (r:List Fld) (j:Nat) (o o':List Int) (j':Nat),sqr s r j o=.inl (o',j') → ∃ t,o'=o ++ t ∧ ck s r t j=some j'
  | [],j,o,o',j',h => by unfold sqr at h; cases h; exact ⟨[],by simp,rfl⟩
  | x :: r,j,o,o',j',h => by
    unfold sqr at h
    cases hy:s[j]? with
    | none =>
      rw [hy] at h
      simp only at h
      split at h
      · rename_i ho
        obtain ⟨t,e,k⟩:=sqr_ck s r j _ o' j' h
        exact ⟨-1 :: t,by rw [e]; simp,by unfold ck; rw [if_pos ⟨rfl,ho⟩]; exact k⟩
      · cases h
    | some y =>
      rw [hy] at h
      simp only at h
      split at h
      · rename_i m
        obtain ⟨t,e,k⟩:=sqr_ck s r (j + 1) _ o' j' h
        exact ⟨(j:Int) :: t,by rw [e]; simp,by unfold ck; rw [if_neg (by omega),hy]; simp only; rw [if_pos ⟨trivial,m⟩]; exact k⟩
      · split at h
        · rename_i ho
          obtain ⟨t,e,k⟩:=sqr_ck s r j _ o' j' h
          exact ⟨-1 :: t,by rw [e]; simp,by unfold ck; rw [if_pos ⟨rfl,ho⟩]; exact k⟩
        · cases h
theorem sqr_bad (s:List El):∀ (r:List Fld) (j:Nat) (o:List Int) (e:Int) (p:List Int),sqr s r j o=.inr (e,p) → e ≠ 0 ∧ p.length < 2
  | [],j,o,e,p,h => by unfold sqr at h; cases h
  | x :: r,j,o,e,p,h => by
    unfold sqr at h
    cases hy:s[j]? with
    | none =>
      rw [hy] at h
      simp only at h
      split at h
      · exact sqr_bad s r j _ e p h
      · cases h; simp
    | some y =>
      rw [hy] at h
      simp only at h
      split at h
      · exact sqr_bad s r (j + 1) _ e p h
      · split at h
        · exact sqr_bad s r j _ e p h
        · cases h; simp
theorem sq_bad {e:El} {t:Int × Bool × Int} {l:List Fld} {er:Int} {p:List Int} (h:sq e t l=.inr (er,p)):er ≠ 0 ∧ p.length < 2:=by
  unfold sq at h
  split at h
  · cases h; simp
  split at h
  · cases h; simp
  split at h
  · rename_i q hq; cases h; exact sqr_bad _ _ _ _ _ _ hq
  · split at h
    · cases h; simp
    · cases h
theorem sq_ok {e:El} {t:Int × Bool × Int} {l:List Fld} {o:List Int} (h:sq e t l=.inl o):o.length=l.length ∧ ck e.s l o 0=some e.s.length ∧ l.length ≤ 256 ∧ e.c=t.1 ∧ e.k=t.2.1 ∧ e.n=t.2.2:=by
  unfold sq at h
  split at h
  · cases h
  rename_i big
  split at h
  · cases h
  rename_i tg
  split at h
  · cases h
  · rename_i o' j hq
    split at h
    · cases h
    · rename_i hj
      cases h
      have ln:=sqr_len e.s l 0 [] o j (by omega) hq
      obtain ⟨t,e1,k⟩:=sqr_ck e.s l 0 [] o j hq
      simp at e1 ln
      subst e1
      have tg':=Classical.not_not.1 tg
      exact ⟨ln.1,by rw [k]; congr 1; omega,by omega,tg'⟩
end F11
end
section
open Ab Go TabE
set_option maxRecDepth 100000
namespace LW
theorem l12:Con E 200 50 [] (.bool true):=by
  obtain ⟨g,h⟩:=isT_some (show isT (aCall E 200 0 50 [] [])=true by kernel_rfl)
  exact .of (g:=g) rfl h
end LW
end
section
open Ab Go TabE Sp E34 F1 F4 F5
namespace F20
def bO:Code:=lp c51 0
abbrev zc:List AV:=[.sl true [] (some 0),.int .i64 0]
abbrev S (e:El) (i:Nat):St:=⟨[(1,.ptr (1,1,0) 0),(2,.ptr (1,2,0) 0),(8,.sl e.fs (El.avs e.s) e.cs),(9,.int .i64 (e.s.length:Int)),(10,.int .i64 (i:Int))],[((1,1,0),bx (ec e)),((1,2,0),bx zc)]⟩
abbrev Bad (i:Nat) (w:Int):AExit × St:=(.ret,⟨[(2,.ptr (1,2,0) 0)],[((1,2,0),bx [.sl false [.int .i64 i] (some 1),.int .i64 w])]⟩)
theorem go0 (q k1:Nat) (e x:El) (hx:e.s[0]? = some x) (A:∀ h,aCall E q 0 32 [x.av] h=some (.ret (.int .i64 0),h)):rnd fn51 bO q k1 (S e 0)=some (.normal,S e 1):=by
  have hi:0 < e.s.length:=(List.getElem?_eq_some_iff.1 hx).1
  have hn:¬ e.s=[]:=fun h => by rw [h] at hi; simp at hi
  have ix:=El.at_ e.fs e.cs e.s 0 x hx
  try simp at ix
  rw [El.av_eq] at A
  simp [bO,lp,lps,c51,↓s_seq,↓s_reg,↓s_cond,↓s_block,↓s_cons,s_nil,firstReg,s_val,s_skip,s_calls,s_cax,s_ret,s_rgx,s_sqn,s_sqe,s_cdb,s_bke,s_exit,s_skip',s_clean,o_tmp,o_int,l_hit,l_miss,ol_nil,ol_cons,ol_some,x_move,x_assign,x_bin,bn_s,x_callF,cl_no,binA,intOp,sealLW,AV.pure,AV.pureL,keepT,x_alloc,x_load,ldx,x_store,stx,x_indexAddr,iax,newK,genOf,setK,lookK,writeL,writeC,readC,TyI.mk1,AV.cells,gcH,reach,keysT,keepK,inKs,AV.keys,AV.keysL,Ty.isAgg,w_i64,sc_int,sc_bool,sc_sl,sl_agg,ix,hi,A]
theorem goS (q k1:Nat) (e x y:El) (j:Nat) (hj:j < 1000) (hy:e.s[j]? = some y) (hx:e.s[j + 1]? = some x) (A:∀ h,aCall E q 0 32 [x.av] h=some (.ret (.int .i64 0),h)) (C:∀ h,aCall E q 0 37 [y.av,x.av] h=some (.ret (.int .i64 (-1)),h)):rnd fn51 bO q k1 (S e (j + 1))=some (.normal,S e (j + 1 + 1)):=by
  have hi:j + 1 < e.s.length:=(List.getElem?_eq_some_iff.1 hx).1
  have hi':(j:Int) + 1 < (e.s.length:Int):=by omega
  have ix:=El.at_ e.fs e.cs e.s (j + 1) x hx
  have iy:=El.at_ e.fs e.cs e.s j y hy
  have w:=w64' ((j:Int) + 1 + 1) (by omega) (by omega)
  have w2:=w64' (j:Int) (by omega) (by omega)
  have n0:¬ (j:Int) + 1=0:=by omega
  try simp at ix
  rw [El.av_eq] at A C
  rw [El.av_eq x] at C
  simp [bO,lp,lps,c51,↓s_seq,↓s_reg,↓s_regd,↓s_cond,↓s_block,↓s_cons,s_nil,firstReg,s_val,s_skip,s_calls,s_callP,s_cax,s_ret,s_rgx,s_sqn,s_cdb,s_bkn,s_skip',s_clean,o_tmp,o_int,l_hit,l_miss,ol_nil,ol_cons,ol_some,x_move,x_assign,x_bin,bn_s,x_callF,cl_no,binA,intOp,sealLW,AV.pure,AV.pureL,keepT,x_alloc,x_load,ldx,x_store,stx,x_fieldAddr,x_indexAddr,iax,newK,genOf,setK,lookK,writeL,writeC,readC,TyI.mk1,fieldAddrA,AV.cells,gcH,reach,keysT,keepK,inKs,AV.keys,AV.keysL,Ty.isAgg,sc_int,sc_bool,sc_sl,sl_agg,i_beq,ix,iy,w,w2,n0,hi',A,C]
theorem badS (q k1:Nat) (e x y:El) (j:Nat) (v w:Int) (hv:v=1 ∧ w=13 ∨ v=0 ∧ w=14) (hj:j < 1000) (hq:20 ≤ q) (hy:e.s[j]? = some y) (hx:e.s[j + 1]? = some x) (A:∀ h,aCall E q 0 32 [x.av] h=some (.ret (.int .i64 0),h)) (C:∀ h,aCall E q 0 37 [y.av,x.av] h=some (.ret (.int .i64 v),h)):rnd fn51 bO q k1 (S e (j + 1))=some (Bad (j + 1) w):=by
  have hi:j + 1 < e.s.length:=(List.getElem?_eq_some_iff.1 hx).1
  have hi':(j:Int) + 1 < (e.s.length:Int):=by omega
  have ix:=El.at_ e.fs e.cs e.s (j + 1) x hx
  have iy:=El.at_ e.fs e.cs e.s j y hy
  have w2:=w64' (j:Int) (by omega) (by omega)
  have n0:¬ (j:Int) + 1=0:=by omega
  have f:=fun c => fone w ((j:Int) + 1) c q (by omega) 0
  try simp [ns] at f
  try simp at ix
  rw [El.av_eq] at A C
  rw [El.av_eq x] at C
  rcases hv with ⟨rfl,rfl⟩ | ⟨rfl,rfl⟩ <;> simp [bO,lp,lps,c51,↓s_seq,↓s_reg,↓s_regd,↓s_cond,↓s_block,↓s_cons,s_nil,firstReg,s_val,s_skip,s_calls,s_callP,s_cax,s_ret,s_rgx,s_sqn,s_sqr,s_cdb,s_bkr,s_ret',s_skip',s_clean,o_tmp,o_int,l_hit,l_miss,ol_nil,ol_cons,ol_some,x_move,x_assign,x_bin,bn_s,x_callF,cl_no,binA,intOp,sealLW,AV.pure,AV.pureL,keepT,x_alloc,x_buildSliceF,bsf,x_load,ldx,x_store,stx,x_fieldAddr,x_indexAddr,iax,newK,genOf,setK,lookK,fillA,writeL,writeC,readC,TyI.mk1,fieldAddrA,AV.cells,chunk,gcH,reach,keysT,keepK,inKs,AV.keys,AV.keysL,Ty.isAgg,sc_int,sc_bool,sc_sl,sl_int,sl_sl,sl_agg,i_beq,ix,iy,w2,n0,hi',A,C,f]
abbrev Out (e:El):AExit × St:=(.exit 0,⟨[(1,.ptr (1,1,0) 0),(2,.ptr (1,2,0) 0),(8,.sl e.fs (El.avs e.s) e.cs),(9,.int .i64 (e.s.length:Int)),(10,.int .i64 (e.s.length:Int)),(11,.bool false)],[((1,1,0),bx (ec e)),((1,2,0),bx zc)]⟩)
theorem last (q k1:Nat) (e:El):rnd fn51 bO q k1 (S e e.s.length)=some (Out e):=by
  simp [bO,lp,lps,c51,↓s_seq,↓s_reg,↓s_cond,↓s_cons,s_nil,firstReg,s_val,s_rgx,s_sqn,s_sqe,s_cdb,s_exit,s_clean,o_tmp,l_hit,l_miss,x_bin,bn_s,binA,intOp,keepT,lookK,gcH,reach,keysT,keepK,inKs,AV.keys,AV.keysL]
end F20
end
section
open Ab Go TabE
attribute [local simp ↓] s_seq s_reg s_regd s_cond s_block s_cons s_consG s_regD
attribute [local simp] s_nil s_loop s_round s_lpn s_lpe s_lpr firstReg s_gt s_gf s_wb s_wu s_val s_valN s_skip s_calls s_callP s_cax lookR flatR pureKs s_ret s_rgx s_sqn s_sqr s_sqe s_cdb s_bkn s_bkr s_bke s_exit s_ret' s_skip' s_finr s_finn s_fin1 s_fix s_clean s_gc0 o_tmp o_int o_bool o_nil o_str o_fn o_nil' l_hit l_miss l_nil ol_nil ol_cons ol_some x_move x_assign x_pick pk_t pk_f x_bin bn_s x_un x_extract x_callF cl_no x_callB x_callBF frzV x_conv cvx convA frame0 binA intOp resL resA results1 sealLW AV.pure AV.pureL keepT x_alloc x_box bxx x_build bdx x_buildSlice bsx x_buildSliceF bsf x_load ldx x_store stx x_slice slx x_fieldAddr x_field x_index ixx x_indexAddr iax x_makeSlice msx x_makeSliceF msf x_nilCheck newK genOf setK lookK fillA writeL writeC readC conts TyI.mk1 sliceA boundsA boundsB fitsA numA indexAddrA fieldAddrA partA fieldA indexA appendA copyA builtinA AV.cells chunk gcH reach keysT keepK inKs AV.keys AV.keysL Ty.isAgg eq1 eqL convA.go ltI w_u8 w_u32 w_u64 w_i64 w_fdiv w_tdiv w_tmod IntKind.bits unA sc_int sc_bool sc_str sc_sl sc_ref sc_ptr sc_pel sc_nilp sc_fn sc_nilf sc_if sc_nili sc_agg sc_tup sc_mem bs_pure bs_kl bs_length bs_cells bs_all sl_row sealRow sealY sl_int sl_bool sl_str sl_sl sl_nilp sl_nilf sl_nili sl_pel sl_agg sl_tup sl_fn sl_if nat_1 bs_cons bs_nil i_beq i_bne x_mkF x_mkI x_tassert x_panic s_pan s_sqp s_bkp s_finp s_fixp s_lpp s_rgp s_retp s_site s_stxN s_stxO x_callT clx El.avs_len s_dyn0 s_rgy barOf dynChk footL dynOK disjK keysOp opVals Op.operands
section
open Ab Go TabE Sp E18 E20 E22 E23 E26
namespace E27
theorem lastS (q0 k1:Nat) (f q) (l:List G) (key:Key) (st:List El) (hkey:∃ m,key=(1,49,m) ∨ key=(1,92,m)) (i:Nat) (hi:i=min 39 l.length) :
    rndO fn22 b22 q0 k1 (S f (l.map G.av) q key st i)=some (.exit 0,⟨[(1,.ptr (1,1,0) 0),(2,.ptr (1,2,0) 0),(3,.ref key 0 st.length none),(4,.int .i64 (i:Int)),(17,.bool false)],[((1,1,0),bx [.sl f (l.map G.av) q]),((1,2,0),bx Z),(key,⟨El.fl st,true,true,false,5,true⟩)]⟩):=by
  by_cases h:i < l.length
  · have i39:i=39:=by omega
    subst i39
    have h':(39:Int) < l.length:=by omega
    obtain ⟨m,rfl | rfl⟩:=hkey <;> simp [b22,lp,lps,c22,h,h',El.fl_keys]
  · obtain ⟨m,rfl | rfl⟩:=hkey <;> simp [b22,lp,lps,c22,h,El.fl_keys]
theorem last0 (q0 k1:Nat) (f q) :
    rndO fn22 b22 q0 k1 (S0 f [] q 0)=some (.exit 0,⟨[(1,.ptr (1,1,0) 0),(2,.ptr (1,2,0) 0),(3,.sl true [] (some 0)),(4,.int .i64 0),(17,.bool false)],[((1,1,0),bx [.sl f [] q]),((1,2,0),bx Z)]⟩):=by
  simp [b22,lp,lps,c22]
theorem step (K:Nat) (f q) (l:List G) (hl:∀ g ∈ l,g.ok) (ll:l.length ≤ 9223372036854775807) (i:Nat) (g:G) (hx:l[i]? = some g) (hi:i < 39) (key:Key) (hkey:∃ m,key=(1,49,m) ∨ key=(1,92,m)) (hne:(sq l i).length ≠ 0)
    (T:∀ k:Int,0 ≤ k → k < 256 → ∀ h,aCall E K 0 71 [.agg [.int .u8 g.c,.int .u8 k,.int .u32 g.n]] h=some (.ret (.agg [.int .u8 (g.c % 4),.bool (decide (k % 2=1)),.int .u32 (tn g.c k g.n)]),h))
    (D:∀ h,aCall E K 0 40 [(nd g ((sq l i).drop ((sq l i).length - kk g (sq l i).length))).av] h=some (.ret (.int .i64 (dep (nd g ((sq l i).drop ((sq l i).length - kk g (sq l i).length))).core)),h)) :
    ∃ key',(∃ m,key'=(1,49,m) ∨ key'=(1,92,m)) ∧ rndO fn22 b22 K K (S f (l.map G.av) q key (sq l i) i)=some (.normal,S f (l.map G.av) q key' (sq l (i + 1)) (i + 1)):=by
  have og:=hl g (List.mem_of_getElem? hx)
  have iv:=inv l hl i (by omega)
  have ln:=cnts_len (sq l i)
  have e:sq l (i + 1)=E26.nx (sq l i) g:=by rw [sq,hx]
  rw [e]
  generalize sq l i=st at *
  by_cases ha:g.a % 3=0
  · have t:=T 0 (by omega) (by omega)
    have e2:E26.nx st g=st ++ [leaf g]:=by unfold E26.nx; rw [if_pos ha]
    rw [e2]
    exact ⟨_,⟨_,.inl rfl⟩,leafR key st (by omega) hkey K K f q l i g og hx hi ha ll t⟩
  have t:=T 1 (by omega) (by omega)
  have e2:E26.nx st g=if dep (nd g (st.drop (st.length - kk g st.length))).core < 15 then st.take (st.length - kk g st.length) ++ [nd g (st.drop (st.length - kk g st.length))] else st:=by unfold E26.nx; rw [if_neg ha]
  rw [e2]
  have kl:=kk_le g st.length
  have hkp:st.length=kk g st.length + (st.length - kk g st.length):=by omega
  by_cases h2:g.a % 3=2
  · exact nodeA key st (by omega) hne hkey _ _ hkp (by unfold kk; rw [if_pos h2]) K K f q l i g og hx hi ha ll h2 _ t D
  have h3:g.a % 3 ≠ 2 ∧ (if (st.length:Int) < g.b % 5 then (st.length:Int) else g.b % 5)=(kk g st.length:Int):=by
    refine ⟨h2,?_⟩
    unfold kk
    rw [if_neg h2]
    split <;> omega
  by_cases k0:kk g st.length=0
  · exact E24.nodeC key st (by omega) hne hkey _ _ hkp k0 K K f q l i g og hx hi ha ll h3 _ t D
  by_cases k1:kk g st.length=st.length
  · exact E24.nodeB key st (by omega) hne hkey _ _ hkp k1 K K f q l i g og hx hi ha ll h3 _ t D
  · exact E25.nodeD key st (by omega) hne hkey _ _ hkp ⟨by omega,by omega⟩ K K f q l i g og hx hi ha ll h3 _ t D
theorem first (K:Nat) (f q) (l:List G) (hl:∀ g ∈ l,g.ok) (ll:l.length ≤ 9223372036854775807) (g:G) (hx:l[0]? = some g)
    (T:∀ k:Int,0 ≤ k → k < 256 → ∀ h,aCall E K 0 71 [.agg [.int .u8 g.c,.int .u8 k,.int .u32 g.n]] h=some (.ret (.agg [.int .u8 (g.c % 4),.bool (decide (k % 2=1)),.int .u32 (tn g.c k g.n)]),h))
    (D:∀ h,aCall E K 0 40 [(nd g []).av] h=some (.ret (.int .i64 (dep (nd g []).core)),h)) :
    ∃ key',(∃ m,key'=(1,49,m) ∨ key'=(1,92,m)) ∧ rndO fn22 b22 K K (S0 f (l.map G.av) q 0)=some (.normal,S f (l.map G.av) q key' (sq l 1) 1):=by
  have og:=hl g (List.mem_of_getElem? hx)
  have e:sq l 1=E26.nx [] g:=by rw [sq,hx]; rfl
  have d1:dep (nd g []).core=1:=rfl
  rw [d1] at D
  rw [e]
  by_cases ha:g.a % 3=0
  · have t:=T 0 (by omega) (by omega)
    have e2:E26.nx [] g=[leaf g]:=by unfold E26.nx; rw [if_pos ha]; rfl
    rw [e2]
    exact ⟨_,⟨_,.inl rfl⟩,leaf0 K K f q l 0 g og hx (by omega) ha ll t⟩
  have t:=T 1 (by omega) (by omega)
  have e2:E26.nx [] g=[nd g []]:=by unfold E26.nx; rw [if_neg ha]; simp [d1]
  rw [e2]
  exact ⟨_,⟨_,.inr rfl⟩,node0 K K f q l 0 g og hx (by omega) ha ll t D⟩
abbrev Fin (f:Bool) (q:Option Nat) (l:List G) (key:Key) (st:List El):Option (AExit × St):=some (.exit 0,⟨[(1,.ptr (1,1,0) 0),(2,.ptr (1,2,0) 0),(3,.ref key 0 st.length none),(4,.int .i64 ((min 39 l.length:Nat):Int)),(17,.bool false)],[((1,1,0),bx [.sl f (l.map G.av) q]),((1,2,0),bx Z),(key,⟨El.fl st,true,true,false,5,true⟩)]⟩)
theorem loop (K:Nat) (f q) (l:List G) (hl:∀ g ∈ l,g.ok) (ll:l.length ≤ 9223372036854775807)
    (T:∀ g ∈ l,∀ k:Int,0 ≤ k → k < 256 → ∀ h,aCall E K 0 71 [.agg [.int .u8 g.c,.int .u8 k,.int .u32 g.n]] h=some (.ret (.agg [.int .u8 (g.c % 4),.bool (decide (k % 2=1)),.int .u32 (tn g.c k g.n)]),h))
    (D:∀ i g,i < 39 → l[i]? = some g → ∀ h,aCall E K 0 40 [(nd g ((sq l i).drop ((sq l i).length - kk g (sq l i).length))).av] h=some (.ret (.int .i64 (dep (nd g ((sq l i).drop ((sq l i).length - kk g (sq l i).length))).core)),h)) :
    ∀ (n i:Nat) (key:Key) (k:Nat),(∃ m,key=(1,49,m) ∨ key=(1,92,m)) → i + n=min 39 l.length → 0 < i → n < k →
      ∃ key',(∃ m,key'=(1,49,m) ∨ key'=(1,92,m)) ∧ aLoop (aCode E (site fn22 (aRun E K)) (dcall (aRun E K)) K 1 fn22 b22) (cleanS 1 ((firstReg b22).bind fn22.head)) k (S f (l.map G.av) q key (sq l i) i)=Fin f q l key' (sq l (min 39 l.length))
  | 0,i,key,k,hkey,hi,i0,hk => by
    obtain ⟨k,rfl⟩:∃ j,k=j + 1:=⟨k - 1,by omega⟩
    obtain rfl:i=min 39 l.length:=by omega
    exact ⟨key,hkey,aLoop_end (lastS K K f q l key _ hkey _ rfl) (by simp)⟩
  | n + 1,i,key,k,hkey,hi,i0,hk => by
    obtain ⟨k,rfl⟩:∃ j,k=j + 1:=⟨k - 1,by omega⟩
    have hx:l[i]? = some (l[i]'(by omega)):=List.getElem?_eq_getElem _
    have hne:(sq l i).length ≠ 0:=by
      obtain ⟨j,rfl⟩:∃ j,i=j + 1:=⟨i - 1,by omega⟩
      exact sq_ne l j (by omega)
    obtain ⟨key1,hk1,h1⟩:=step K f q l hl ll i _ hx (by omega) key hkey hne (T _ (List.mem_of_getElem? hx)) (D i _ (by omega) hx)
    obtain ⟨key2,hk2,h2⟩:=loop K f q l hl ll T D n (i + 1) key1 k hk1 (by omega) (by omega) (by omega)
    exact ⟨key2,hk2,by rw [aLoop_succ h1,h2]⟩
end E27
end
end
