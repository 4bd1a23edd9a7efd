/- Own work, no conditions. -/
import Derived.Test.YtbiildmljbcmeaaDoorOFn
import Derived.Test.YtbiildmljbcmeaaDoorF2
set_option maxRecDepth 20000
set_option linter.unusedSimpArgs false
set_option linter.unusedVariables false
set_option maxHeartbeats 16000000
section
open Ab Go TabE
attribute [local simp ↓] s_seq s_reg s_regd s_cond s_block s_cons s_consG s_regD
attribute [local simp] s_nil s_loop s_round s_lpn s_lpe s_lpr firstReg s_gt s_gf s_wb s_wu s_val s_valN s_skip s_calls s_callP s_cax lookR flatR pureKs s_ret s_rgx s_sqn s_sqr s_sqe s_cdb s_bkn s_bkr s_bke s_exit s_ret' s_skip' s_finr s_finn s_fin1 s_fix s_clean s_gc0 o_tmp o_int o_bool o_nil o_str o_fn o_nil' l_hit l_miss l_nil ol_nil ol_cons ol_some x_move x_assign x_pick pk_t pk_f x_bin bn_s x_un x_extract x_callF cl_no x_callB x_callBF frzV x_conv cvx convA frame0 binA intOp resL resA results1 sealLW AV.pure AV.pureL keepT x_alloc x_box bxx x_build bdx x_buildSlice bsx x_buildSliceF bsf x_load ldx x_store stx x_slice slx x_fieldAddr x_field x_index ixx x_indexAddr iax x_makeSlice msx x_makeSliceF msf x_nilCheck newK genOf setK lookK fillA writeL writeC readC conts TyI.mk1 sliceA boundsA boundsB fitsA numA indexAddrA fieldAddrA partA fieldA indexA appendA copyA builtinA AV.cells chunk gcH reach keysT keepK inKs AV.keys AV.keysL Ty.isAgg eq1 eqL convA.go ltI w_u8 w_u32 w_u64 w_i64 w_fdiv w_tdiv w_tmod IntKind.bits unA sc_int sc_bool sc_str sc_sl sc_ref sc_ptr sc_pel sc_nilp sc_fn sc_nilf sc_if sc_nili sc_agg sc_tup sc_mem bs_pure bs_kl bs_length bs_cells bs_all sl_row sealRow sealY sl_int sl_bool sl_str sl_sl sl_nilp sl_nilf sl_nili sl_pel sl_agg sl_tup sl_fn sl_if nat_1 bs_cons bs_nil i_beq i_bne x_mkF x_mkI x_tassert x_panic s_pan s_sqp s_bkp s_finp s_fixp s_lpp s_rgp s_retp s_site s_stxN s_stxO x_callT clx El.avs_len s_dyn0 s_rgy barOf dynChk footL dynOK disjK keysOp opVals Op.operands
section
open Ab Go TabE Sp E34 F1 Rw F5 F6 F7 F8 F43 F47 AP A1 A2 A6
namespace A7
abbrev Bd (K:Nat) (n x0 x1 x2 x3 x4 x5 x6 x7 x8 x9 x10 x11 x12 x13 x14 x15:Int) (b:Bool) (p:El) (v:AV) (w:Int):Prop:=∀ h,aCall E K 0 72 [ag n x0 x1 x2 x3 x4 x5 x6 x7 x8 x9 x10 x11 x12 x13 x14 x15 b p] h=some (.ret (.tup [v,.int .i64 w]),h)
def bld (n:Int) (xs:List Int) (b:Bool) (p:El):El:=if b=true then tp [lf (OP.octs n xs),clo p] 2 else tp [lf (OP.octs n xs)] 1
theorem run_bad (K:Nat) (hK:60 ≤ K) (n x0 x1 x2 x3 x4 x5 x6 x7 x8 x9 x10 x11 x12 x13 x14 x15:Int) (b:Bool) (p:El) (w:Int) (hw:w ≠ 0) (B:Bd K n x0 x1 x2 x3 x4 x5 x6 x7 x8 x9 x10 x11 x12 x13 x14 x15 b p zel w):∃ hf,aRun E (K + 1) 71 [ag n x0 x1 x2 x3 x4 x5 x6 x7 x8 x9 x10 x11 x12 x13 x14 x15 b p,.fn 72 [] []] []=some (.ret (.tup [zel,.int .i64 w]),hf):=by
  refine OFn.exm ?_
  rw [aRun_fn rfl E_fn71 rfl (Nat.le_of_ble_eq_true rfl),body_71,c71]
  unfold Bd at B
  simp [-s_round,B,hw,-Option.map_eq_some_iff]
theorem run_ok (K:Nat) (hK:60 ≤ K) (n x0 x1 x2 x3 x4 x5 x6 x7 x8 x9 x10 x11 x12 x13 x14 x15:Int) (b:Bool) (p y:El) (w:Int) (B:Bd K n x0 x1 x2 x3 x4 x5 x6 x7 x8 x9 x10 x11 x12 x13 x14 x15 b p y.av 0) (C:Ck K y w):∃ hf,aRun E (K + 1) 71 [ag n x0 x1 x2 x3 x4 x5 x6 x7 x8 x9 x10 x11 x12 x13 x14 x15 b p,.fn 72 [] []] []=some (.ret (.tup [if w=0 then y.av else zel,.int .i64 w]),hf):=by
  refine OFn.exm ?_
  rw [aRun_fn rfl E_fn71 rfl (Nat.le_of_ble_eq_true rfl),body_71,c71]
  unfold Bd at B; unfold Ck at C; rw [El.av_eq] at B C
  by_cases hw:w=0
  · rw [if_pos hw,El.av_eq]
    simp [-s_round,B,C,hw,-Option.map_eq_some_iff]
  · rw [if_neg hw]
    simp [-s_round,B,C,hw,-Option.map_eq_some_iff]
theorem elem_of (K:Nat) (hK:60 ≤ K) (n x0 x1 x2 x3 x4 x5 x6 x7 x8 x9 x10 x11 x12 x13 x14 x15:Int) (b:Bool) (p y:El) (w:Int) (o:∃ hf,aRun E K 71 [ag n x0 x1 x2 x3 x4 x5 x6 x7 x8 x9 x10 x11 x12 x13 x14 x15 b p,.fn 72 [] []] []=some (.ret (.tup [y.av,.int .i64 w]),hf)) :
    Con E (K + 1) 19 [ag n x0 x1 x2 x3 x4 x5 x6 x7 x8 x9 x10 x11 x12 x13 x14 x15 b p] (.tup [y.av,.int .i64 w]) ∧ Con E (K + 1) 24 [ag n x0 x1 x2 x3 x4 x5 x6 x7 x8 x9 x10 x11 x12 x13 x14 x15 b p] (.int .i64 w):=by
  obtain ⟨hf,e⟩:=o
  have o:=fun slot h => OFn.opened_fn (slot:=slot) (h:=h) e (by simp [AV.pure,AV.pureL,El.avs_pure]) (by simp [AV.pure,AV.pureL,El.av_pure])
  simp only [El.av_eq y] at o ⊢
  constructor
  · refine con_ofO E_fn19 (by simp [AV.pureL,AV.pure,El.avs_pure]) (Nat.le_of_ble_eq_true rfl) rfl (g:=[]) ?_
    rw [body_19,c19]
    simp [-s_round,o]
  · refine con_ofO E_fn24 (by simp [AV.pureL,AV.pure,El.avs_pure]) (Nat.le_of_ble_eq_true rfl) rfl (g:=[]) ?_
    rw [body_24,c24]
    simp [-s_round,o]
def er (n:Int) (xs:List Int) (b:Bool) (p:El):Int:=if OP.okB n xs=false then 1 else if b=false ∧ zE p=false then 1 else (chk (bld n xs b p).core 1 0 0).1
theorem elem (n x0 x1 x2 x3 x4 x5 x6 x7 x8 x9 x10 x11 x12 x13 x14 x15:Int) (b:Bool) (p:El) (hn:0 ≤ n ∧ n < 256) (hx:∀ x ∈ [x0,x1,x2,x3,x4,x5,x6,x7,x8,x9,x10,x11,x12,x13,x14,x15],0 ≤ x ∧ x < 4294967296) (hp:p.ok) (wd:Wd p) (nn:E31.Nn p) (sh:E33.Sh p) (ho:(bld n [x0,x1,x2,x3,x4,x5,x6,x7,x8,x9,x10,x11,x12,x13,x14,x15] b p).ok) :
    ∃ N,Con E N 19 [ag n x0 x1 x2 x3 x4 x5 x6 x7 x8 x9 x10 x11 x12 x13 x14 x15 b p] (.tup [if er n [x0,x1,x2,x3,x4,x5,x6,x7,x8,x9,x10,x11,x12,x13,x14,x15] b p=0 then (bld n [x0,x1,x2,x3,x4,x5,x6,x7,x8,x9,x10,x11,x12,x13,x14,x15] b p).av else zel,.int .i64 (er n [x0,x1,x2,x3,x4,x5,x6,x7,x8,x9,x10,x11,x12,x13,x14,x15] b p)]) ∧ Con E N 24 [ag n x0 x1 x2 x3 x4 x5 x6 x7 x8 x9 x10 x11 x12 x13 x14 x15 b p] (.int .i64 (er n [x0,x1,x2,x3,x4,x5,x6,x7,x8,x9,x10,x11,x12,x13,x14,x15] b p)):=by
  obtain ⟨N1,C1⟩:=A1.clone p wd nn sh
  obtain ⟨N2,C2⟩:=E10.check _ ho
  obtain ⟨K,hK⟩:∃ K,N1 + N2 + 100=K:=⟨_,rfl⟩
  have P:=put n x0 x1 x2 x3 x4 x5 x6 x7 x8 x9 x10 x11 x12 x13 x14 x15 hn hx K (by omega) 0
  have Z:=A1.zero p K (by omega) 0
  refine ⟨K + 3,?_⟩
  have fin:∀ (y:El) (w:Int),(∃ hf,aRun E (K + 2) 71 [ag n x0 x1 x2 x3 x4 x5 x6 x7 x8 x9 x10 x11 x12 x13 x14 x15 b p,.fn 72 [] []] []=some (.ret (.tup [y.av,.int .i64 w]),hf)) → Con E (K + 3) 19 [ag n x0 x1 x2 x3 x4 x5 x6 x7 x8 x9 x10 x11 x12 x13 x14 x15 b p] (.tup [y.av,.int .i64 w]) ∧ Con E (K + 3) 24 [ag n x0 x1 x2 x3 x4 x5 x6 x7 x8 x9 x10 x11 x12 x13 x14 x15 b p] (.int .i64 w):=fun y w o => elem_of (K + 2) (by omega) n x0 x1 x2 x3 x4 x5 x6 x7 x8 x9 x10 x11 x12 x13 x14 x15 b p y w o
  cases hok:OP.okB n [x0,x1,x2,x3,x4,x5,x6,x7,x8,x9,x10,x11,x12,x13,x14,x15] with
  | false =>
    rw [hok] at P
    have e1:er n [x0,x1,x2,x3,x4,x5,x6,x7,x8,x9,x10,x11,x12,x13,x14,x15] b p=1:=by unfold er; rw [hok,if_pos rfl]
    rw [e1,if_neg (by decide:¬ (1:Int)=0)]
    refine fin E32.z0 1 (run_bad (K + 1) (by omega) n x0 x1 x2 x3 x4 x5 x6 x7 x8 x9 x10 x11 x12 x13 x14 x15 b p 1 (by decide) ?_)
    exact fun h => bad1 K (by omega) n x0 x1 x2 x3 x4 x5 x6 x7 x8 x9 x10 x11 x12 x13 x14 x15 b p P (K + 1) (by omega) 0 h
  | true =>
    rw [hok] at P
    simp only [if_true] at P
    by_cases hz:b=false ∧ zE p=false
    · have e1:er n [x0,x1,x2,x3,x4,x5,x6,x7,x8,x9,x10,x11,x12,x13,x14,x15] b p=1:=by unfold er; rw [hok,if_neg (by simp),if_pos hz]
      rw [e1,if_neg (by decide:¬ (1:Int)=0)]
      obtain ⟨rfl,hz⟩:=hz
      rw [hz] at Z
      refine fin E32.z0 1 (run_bad (K + 1) (by omega) n x0 x1 x2 x3 x4 x5 x6 x7 x8 x9 x10 x11 x12 x13 x14 x15 false p 1 (by decide) ?_)
      exact fun h => bad2 K (by omega) n x0 x1 x2 x3 x4 x5 x6 x7 x8 x9 x10 x11 x12 x13 x14 x15 p _ P Z (K + 1) (by omega) 0 h
    · have e1:er n [x0,x1,x2,x3,x4,x5,x6,x7,x8,x9,x10,x11,x12,x13,x14,x15] b p=(chk (bld n [x0,x1,x2,x3,x4,x5,x6,x7,x8,x9,x10,x11,x12,x13,x14,x15] b p).core 1 0 0).1:=by unfold er; rw [hok,if_neg (by simp),if_neg hz]
      rw [e1]
      have B:Bd (K + 1) n x0 x1 x2 x3 x4 x5 x6 x7 x8 x9 x10 x11 x12 x13 x14 x15 b p (bld n [x0,x1,x2,x3,x4,x5,x6,x7,x8,x9,x10,x11,x12,x13,x14,x15] b p).av 0:=by
        cases b with
        | false =>
          have hz':zE p=true:=by cases q:zE p; exact absurd ⟨rfl,q⟩ hz; rfl
          rw [hz'] at Z
          exact fun h => ok1 K (by omega) n x0 x1 x2 x3 x4 x5 x6 x7 x8 x9 x10 x11 x12 x13 x14 x15 p _ P Z (K + 1) (by omega) 0 h
        | true =>
          exact fun h => ok2 K (by omega) n x0 x1 x2 x3 x4 x5 x6 x7 x8 x9 x10 x11 x12 x13 x14 x15 p _ P (fun h => C1 K (by omega) 0 h) (K + 1) (by omega) 0 h
      have r:=run_ok (K + 1) (by omega) n x0 x1 x2 x3 x4 x5 x6 x7 x8 x9 x10 x11 x12 x13 x14 x15 b p (bld n [x0,x1,x2,x3,x4,x5,x6,x7,x8,x9,x10,x11,x12,x13,x14,x15] b p) (chk (bld n [x0,x1,x2,x3,x4,x5,x6,x7,x8,x9,x10,x11,x12,x13,x14,x15] b p).core 1 0 0).1 B (fun h => C2 (K + 1) (by omega) 0 h)
      have e:∀ w:Int,(if w=0 then (bld n [x0,x1,x2,x3,x4,x5,x6,x7,x8,x9,x10,x11,x12,x13,x14,x15] b p).av else zel)=(if w=0 then bld n [x0,x1,x2,x3,x4,x5,x6,x7,x8,x9,x10,x11,x12,x13,x14,x15] b p else E32.z0).av:=fun w => by split <;> rfl
      rw [e] at r ⊢
      exact fin _ _ r
end A7
end
section
open Ab Go TabE Sp E34 F1
namespace S2
theorem bad49 (q k1:Nat) (a b x y:El) (i:Nat) (hx:a.s[i]? = some x) (hy:b.s[i]? = some y) (le:a.s.length ≤ 9223372036854775807) (B:∀ h,aCall E q 0 20 [x.av,y.av] h=some (.ret (.int .i64 0),h)) :
    rnd fn20 b49 q k1 (S49 a b i)=some (.ret,⟨[(4,.int .i64 0)],[]⟩):=by
  have hi:i < a.s.length:=(List.getElem?_eq_some_iff.1 hx).1
  have ix:=fun hp => El.at_ a.fs a.cs a.s i x hx hp
  have iy:=fun hp => El.at_ b.fs b.cs b.s i y hy hp
  rw [El.av_eq,El.av_eq] at B
  simp [b49,lp,lps,c20,-indexAddrA,ix,iy,B,hi]
theorem cores_ne:∀ (l r:List El),l.length=r.length → El.cores l ≠ El.cores r → ∃ (j:Nat) (x y:El),l[j]? = some x ∧ r[j]? = some y ∧ x.core ≠ y.core ∧ ∀ (i:Nat) (u v:El),i < j → l[i]? = some u → r[i]? = some v → u.core=v.core
  | [],[],_,h => absurd rfl h
  | [],_ :: _,h,_ => by simp at h
  | _ :: _,[],h,_ => by simp at h
  | x :: l,y :: r,h,hn => by
    by_cases e:x.core=y.core
    · obtain ⟨j,u,v,h1,h2,h3,h4⟩:=cores_ne l r (by simpa using h) (fun q => hn (by rw [El.cores,El.cores,e,q]))
      refine ⟨j + 1,u,v,by simpa using h1,by simpa using h2,h3,fun i p q hi hp hq => ?_⟩
      cases i with
      | zero => simp at hp hq; subst hp; subst hq; exact e
      | succ i => exact h4 i p q (by omega) (by simpa using hp) (by simpa using hq)
    · exact ⟨0,x,y,rfl,rfl,e,fun i _ _ hi => by omega⟩
theorem differ:∀ a:El,∀ b:El,a.ok → b.ok → a.core ≠ b.core → ∃ N,Con E N 20 [a.av,b.av] (.int .i64 0):=by
  refine El.ind fun a ih b ha hb hc => ?_
  have ga:=bs_go ha.bb
  have gb:=bs_go hb.bb
  by_cases e1:a.c=b.c
  case neg =>
    refine ⟨21,con_of E_fn20 (by simp [AV.pureL,El.av_pure]) (Nat.le_of_ble_eq_true rfl) rfl rfl (g:=[]) ?_⟩
    rw [body_20,c20]
    simp [El.av_eq,-s_round,e1,ga,gb,fitZ]
  by_cases e2:a.k=b.k
  case neg =>
    refine ⟨21,con_of E_fn20 (by simp [AV.pureL,El.av_pure]) (Nat.le_of_ble_eq_true rfl) rfl rfl (g:=[]) ?_⟩
    rw [body_20,c20]
    cases ak:a.k <;> cases bk:b.k <;> simp [ak,bk] at e2 <;> simp [El.av_eq,-s_round,e1,ak,bk,ga,gb,fitZ]
  by_cases e3:a.n=b.n
  case neg =>
    refine ⟨21,con_of E_fn20 (by simp [AV.pureL,El.av_pure]) (Nat.le_of_ble_eq_true rfl) rfl rfl (g:=[]) ?_⟩
    rw [body_20,c20]
    simp [El.av_eq,-s_round,e1,e2,e3,ga,gb,fitZ]
  by_cases e4:a.b=b.b
  case neg =>
    refine ⟨21,con_of E_fn20 (by simp [AV.pureL,El.av_pure]) (Nat.le_of_ble_eq_true rfl) rfl rfl (g:=[]) ?_⟩
    rw [body_20,c20]
    simp [El.av_eq,-s_round,e1,e2,e3,e4,ga,gb,fitZ]
  by_cases e5:a.s.length=b.s.length
  case neg =>
    have e5':¬ (a.s.length:Int)=b.s.length:=by omega
    refine ⟨21,con_of E_fn20 (by simp [AV.pureL,El.av_pure]) (Nat.le_of_ble_eq_true rfl) rfl rfl (g:=[]) ?_⟩
    rw [body_20,c20]
    simp [El.av_eq,-s_round,e1,e2,e3,e4,e5',ga,gb,fitZ]
  have hcs:El.cores a.s ≠ El.cores b.s:=fun q => hc (El.core_inj.2 ⟨e1,e2,e3,e4,q⟩)
  obtain ⟨j,x,y,hx,hy,hne,hlt⟩:=cores_ne a.s b.s e5 hcs
  have mx:=List.mem_of_getElem? hx
  have my:=List.mem_of_getElem? hy
  have hj:j < a.s.length:=(List.getElem?_eq_some_iff.1 hx).1
  obtain ⟨M,hM⟩:=ih x mx y (ha.sub x mx) (hb.sub y my) hne
  obtain ⟨N,hN⟩:=unif (P:=fun (i n:Nat) => ∀ x y:El,a.s[i]? = some x → b.s[i]? = some y → Con E n 20 [x.av,y.av] (.int .i64 1)) (fun i n m h hm x y hx hy k hk => h x y hx hy k (Nat.le_trans hm hk)) (List.range j) (fun i hi => by
    have hi':i < j:=List.mem_range.1 hi
    obtain ⟨x,hx⟩:∃ x,a.s[i]? = some x:=⟨a.s[i],by simp⟩
    obtain ⟨y,hy⟩:∃ y,b.s[i]? = some y:=⟨b.s[i]'(by omega),List.getElem?_eq_getElem _⟩
    have mx:=List.mem_of_getElem? hx
    obtain ⟨n,hn⟩:=F1.same x y (ha.sub x mx) (hlt i x y hi' hx hy)
    exact ⟨n,fun x' y' hx' hy' => by rw [hx] at hx'; rw [hy] at hy'; cases hx'; cases hy'; exact hn⟩)
  obtain ⟨K,hK⟩:∃ K,N + M + a.s.length + 10=K:=⟨_,rfl⟩
  refine ⟨K + 1,con_of E_fn20 (by simp [AV.pureL,El.av_pure]) (Nat.le_of_ble_eq_true rfl) rfl rfl (g:=[]) ?_⟩
  rw [body_20,c20]
  have L:=loopQ (fn:=fn20) (b:=b49) (K:=K) (k:=K) (fun i => S49 a b i) j rfl (fun i hi => by
    obtain ⟨x,hx⟩:∃ x,a.s[i]? = some x:=⟨a.s[i],by simp⟩
    obtain ⟨y,hy⟩:∃ y,b.s[i]? = some y:=⟨b.s[i]'(by omega),List.getElem?_eq_getElem _⟩
    exact go49 K K a b x y i hx hy ha.sl fun h => hN i (List.mem_range.2 hi) x y hx hy K (by omega) 0 h) (bad49 K K a b x y j hx hy ha.sl fun h => hM K (by omega) 0 h) (by simp) (by omega)
  simp [b49,lp,lps,c20,firstReg,S49,bx,ec,← e1,← e2,← e3,← e4] at L
  simp [El.av_eq,-s_round,← e1,← e2,← e3,← e4,← e5,ga,L,fitZ]
end S2
end
end
