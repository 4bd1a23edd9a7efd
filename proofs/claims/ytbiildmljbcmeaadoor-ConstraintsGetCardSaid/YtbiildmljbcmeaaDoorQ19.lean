/- Own work, no conditions. -/
import Derived.Test.YtbiildmljbcmeaaDoorF37
import Derived.Test.YtbiildmljbcmeaaDoorQ14
import Derived.Test.YtbiildmljbcmeaaDoorF41
set_option maxRecDepth 20000
set_option linter.unusedSimpArgs false
set_option linter.unusedVariables false
set_option maxHeartbeats 16000000
section
open Ab Go TabE
attribute [local simp ↓] s_seq s_reg s_regd s_cond s_block s_cons s_consG s_regD
attribute [local simp] s_nil s_loop s_round s_lpn s_lpe s_lpr firstReg s_gt s_gf s_wb s_wu s_val s_valN s_skip s_calls s_callP s_cax lookR flatR pureKs s_ret s_rgx s_sqn s_sqr s_sqe s_cdb s_bkn s_bkr s_bke s_exit s_ret' s_skip' s_finr s_finn s_fin1 s_fix s_clean s_gc0 o_tmp o_int o_bool o_nil o_str o_fn o_nil' l_hit l_miss l_nil ol_nil ol_cons ol_some x_move x_assign x_pick pk_t pk_f x_bin bn_s x_un x_extract x_callF cl_no x_callB x_callBF frzV x_conv cvx convA frame0 binA intOp resL resA results1 sealLW AV.pure AV.pureL keepT x_alloc x_box bxx x_build bdx x_buildSlice bsx x_buildSliceF bsf x_load ldx x_store stx x_slice slx x_fieldAddr x_field x_index ixx x_indexAddr iax x_makeSlice msx x_makeSliceF msf x_nilCheck newK genOf setK lookK fillA writeL writeC readC conts TyI.mk1 sliceA boundsA boundsB fitsA numA indexAddrA fieldAddrA partA fieldA indexA appendA copyA builtinA AV.cells chunk gcH reach keysT keepK inKs AV.keys AV.keysL Ty.isAgg eq1 eqL convA.go ltI w_u8 w_u32 w_u64 w_i64 w_fdiv w_tdiv w_tmod IntKind.bits unA sc_int sc_bool sc_str sc_sl sc_ref sc_ptr sc_pel sc_nilp sc_fn sc_nilf sc_if sc_nili sc_agg sc_tup sc_mem bs_pure bs_kl bs_length bs_cells bs_all sl_row sealRow sealY sl_int sl_bool sl_str sl_sl sl_nilp sl_nilf sl_nili sl_pel sl_agg sl_tup sl_fn sl_if nat_1 bs_cons bs_nil i_beq i_bne x_mkF x_mkI x_tassert x_panic s_pan s_sqp s_bkp s_finp s_fixp s_lpp s_rgp s_retp s_site s_stxN s_stxO x_callT clx El.avs_len s_dyn0 s_rgy barOf dynChk footL dynOK disjK keysOp opVals Op.operands
section
open Ab Go TabE Sp E34 E53 E61 F1 Rw F5 F6 F7 F8 Q3 Q6 Q7 Q10 Q12 Q13
namespace Q18
theorem opened_fn {E:Env} {k slot f h x g v hf} (hr:aRun E k f [x,.fn g [] []] []=some (.ret v,hf)) (hx:x.pure=true) (hv:v.pure=true):opened [false,true] true (aRun E k) slot f [x,.fn g [] []] h=some (.ret v,h):=by
  have e1:sealM (sealA 20) [false,true] h [x,.fn g [] []]=some ([x,.fn g [] []],h):=by simp [sealM,sealA_of_pure hx]
  have e2:AV.keysL [x,.fn g [] []]=[]:=by simp [AV.keysL,AV.keys,AV.keys_pure x hx]
  have e3:AV.rnL (inK []) [x,.fn g [] []]=[x,.fn g [] []]:=by simp [AV.rnL,AV.rn,rn_pure x hx]
  have e4:sealA 20 hf v=some (v,hf):=sealA_of_pure hv
  have e5:AV.keysL [v]=[]:=by simp [AV.keysL,AV.keys_pure v hv]
  have e6:∀ φ,AV.rnL φ [v]=[v]:=fun φ => by simp [AV.rnL,rn_pure v hv]
  have e7:∀ h:Heap,dd (reach h 3 [])=[]:=fun h => rfl
  unfold opened
  rw [e1]
  simp only [e2,e7]
  unfold lendA
  simp only [lendH,closedH,e2,List.all_nil,and_self,if_true,e3,hr,backR,e4]
  unfold backV Ab.back backA
  simp only [List.length_nil,lentKs,List.range_zero,List.map_nil,List.nil_append,e5,e7,closedH,List.all_nil,and_self,if_true,e6,List.filter_nil,putAll]
theorem exm {x:Option (ARes × Heap)} {r} (h:x.map Prod.fst=some r):∃ hf,x=some (r,hf):=by
  cases x with
  | none => cases h
  | some p => obtain ⟨a,b⟩:=p; cases h; exact ⟨b,rfl⟩
abbrev Gt (K:Nat) (fl:Bool) (b:List Int) (cp:Option Nat) (v:AV):Prop:=∀ h,aCall E K 0 49 [.sl fl (bs b) cp] h=some (.ret v,h)
abbrev Rp (K:Nat) (e:El) (p:List Int) (w at_:Int):Prop:=∀ h,aCall E K 0 102 [e.av,.agg [.sl p.isEmpty (ns p) (some p.length),.int .i64 w]] h=some (.ret (.tup [.int .i64 at_,.int .i64 w]),h)
theorem getBad (K:Nat) (fl b cp) (x y:Int) (hy:y ≠ 0) (G:Gt K fl b cp (.tup [zv,.int .i64 x,.int .i64 y])):Con E (K + 2) 47 [.sl fl (bs b) cp] (.tup [.agg [.int .i64 0,.int .i64 0],.int .i64 x,.int .i64 y]):=by
  have one:∃ hf,aRun E (K + 1) 91 [.sl fl (bs b) cp,.fn 42 [] []] []=some (.ret (.tup [.agg [.int .i64 0,.int .i64 0],.int .i64 x,.int .i64 y]),hf):=by
    refine exm ?_
    rw [aRun_fn rfl E_fn91 rfl (Nat.le_of_ble_eq_true rfl),body_91,c91]
    simp [zv] at G
    simp [-s_round,G,hy,-Option.map_eq_some_iff]
  obtain ⟨hf,e⟩:=one
  have o:=fun slot h => opened_fn (slot:=slot) (h:=h) e (by simp [AV.pure,bs_pure]) (by simp [AV.pure,AV.pureL])
  refine con_ofO E_fn47 (by simp [AV.pureL,AV.pure,bs_pure]) (Nat.le_of_ble_eq_true rfl) rfl (g:=[]) ?_
  rw [body_47,c47]
  simp [-s_round,o]
theorem getOk (K:Nat) (fl b cp) (e:El) (a c:Int) (p:List Int) (w at_:Int) (G:Gt K fl b cp (.tup [e.av,.int .i64 0,.int .i64 0])) (O:∀ h,aCall E K 0 42 [e.av] h=some (.ret (R a c p w),h)) (P:Rp K e p w at_):Con E (K + 2) 47 [.sl fl (bs b) cp] (.tup [.agg [.int .i64 a,.int .i64 c],.int .i64 at_,.int .i64 w]):=by
  have np:=ns_pure p
  have one:∃ hf,aRun E (K + 1) 91 [.sl fl (bs b) cp,.fn 42 [] []] []=some (.ret (.tup [.agg [.int .i64 a,.int .i64 c],.int .i64 at_,.int .i64 w]),hf):=by
    refine exm ?_
    rw [aRun_fn rfl E_fn91 rfl (Nat.le_of_ble_eq_true rfl),body_91,c91]
    unfold Gt at G; unfold Rp at P; rw [El.av_eq] at G O P
    simp [-s_round,G,O,P,np,-Option.map_eq_some_iff]
  obtain ⟨hf,e⟩:=one
  have o:=fun slot h => opened_fn (slot:=slot) (h:=h) e (by simp [AV.pure,bs_pure]) (by simp [AV.pure,AV.pureL])
  refine con_ofO E_fn47 (by simp [AV.pureL,AV.pure,bs_pure]) (Nat.le_of_ble_eq_true rfl) rfl (g:=[]) ?_
  rw [body_47,c47]
  simp [-s_round,o]
theorem skipBad (K:Nat) (fl b cp) (x y:Int) (hy:y ≠ 0) (G:Gt K fl b cp (.tup [zv,.int .i64 x,.int .i64 y])):Con E (K + 2) 48 [.sl fl (bs b) cp] (.tup [.int .i64 0,.int .i64 x,.int .i64 y]):=by
  have one:∃ hf,aRun E (K + 1) 92 [.sl fl (bs b) cp,.fn 93 [] []] []=some (.ret (.tup [.int .i64 0,.int .i64 x,.int .i64 y]),hf):=by
    refine exm ?_
    rw [aRun_fn rfl E_fn92 rfl (Nat.le_of_ble_eq_true rfl),body_92,c92]
    simp [zv] at G
    simp [-s_round,G,hy,-Option.map_eq_some_iff]
  obtain ⟨hf,e⟩:=one
  have o:=fun slot h => opened_fn (slot:=slot) (h:=h) e (by simp [AV.pure,bs_pure]) (by simp [AV.pure,AV.pureL])
  refine con_ofO E_fn48 (by simp [AV.pureL,AV.pure,bs_pure]) (Nat.le_of_ble_eq_true rfl) rfl (g:=[]) ?_
  rw [body_48,c48]
  simp [-s_round,o]
def sk (e:El):Int × Int:=if e.c=0 ∧ e.k=false ∧ e.n=2 then nu e.b else (0,9)
theorem clos (K:Nat) (e:El) (B:Nb K e):Con E (K + 1) 93 [e.av] (.tup [.int .i64 (sk e).1,fF [] (sk e).2]):=by
  refine con_of E_fn93 (by simp [AV.pureL,El.av_pure]) (Nat.le_of_ble_eq_true rfl) rfl rfl (g:=[]) ?_
  rw [body_93,c93]
  rw [El.av_eq]
  unfold sk
  by_cases h1:e.c=0
  · by_cases h2:e.k=false
    · by_cases h3:e.n=2
      · simp [-s_round,B,h1,h2,h3,QC.o_glob,fitZ]
      · simp [-s_round,h1,h2,h3,QC.o_glob,fitZ]
    · simp [-s_round,h1,h2,QC.o_glob,fitZ]
  · simp [-s_round,h1,QC.o_glob,fitZ]
theorem skipOk (K:Nat) (fl b cp) (e:El) (n w at_:Int) (G:Gt K fl b cp (.tup [e.av,.int .i64 0,.int .i64 0])) (O:∀ h,aCall E K 0 93 [e.av] h=some (.ret (.tup [.int .i64 n,fF [] w]),h)) (P:Rp K e [] w at_):Con E (K + 2) 48 [.sl fl (bs b) cp] (.tup [.int .i64 n,.int .i64 at_,.int .i64 w]):=by
  have one:∃ hf,aRun E (K + 1) 92 [.sl fl (bs b) cp,.fn 93 [] []] []=some (.ret (.tup [.int .i64 n,.int .i64 at_,.int .i64 w]),hf):=by
    refine exm ?_
    rw [aRun_fn rfl E_fn92 rfl (Nat.le_of_ble_eq_true rfl),body_92,c92]
    unfold Gt at G; unfold Rp at P; rw [El.av_eq] at G O P
    simp at P
    simp [-s_round,G,O,P,-Option.map_eq_some_iff]
  obtain ⟨hf,e⟩:=one
  have o:=fun slot h => opened_fn (slot:=slot) (h:=h) e (by simp [AV.pure,bs_pure]) (by simp [AV.pure,AV.pureL])
  refine con_ofO E_fn48 (by simp [AV.pureL,AV.pure,bs_pure]) (Nat.le_of_ble_eq_true rfl) rfl (g:=[]) ?_
  rw [body_48,c48]
  simp [-s_round,o]
theorem put (K:Nat) (hK:60 ≤ K) (e y:El) (a c:Int) (D:∀ h,aCall E K 0 45 [.agg [.int .i64 a,.int .i64 c]] h=some (.ret (.tup [y.av,.int .i64 0]),h)) (b:List Int) (P:∀ h,aCall E K 0 95 [y.av] h=some (.ret (.tup [.sl false (bs b) (some b.length),.int .i64 0]),h)):Con E (K + 1) 51 [.agg [.int .i64 a,.int .i64 c]] (.tup [.sl false (bs b) (some b.length),.int .i64 0]):=by
  refine con_of E_fn51 (by simp [AV.pureL,AV.pure]) (Nat.le_of_ble_eq_true rfl) rfl rfl (g:=[]) ?_
  rw [body_51,c51]
  rw [El.av_eq] at D P
  simp [-s_round,D,P]
theorem putSkip (K:Nat) (hK:60 ≤ K) (n:Int) (h0:0 ≤ n) (h1:n ≤ 2147483647) (b:List Int) (P:∀ h,aCall E K 0 95 [.agg [.int .u8 0,.bool false,.int .u32 2,.sl false (bs (pI n)) (some (pI n).length),.sl true [] (some 0)]] h=some (.ret (.tup [.sl false (bs b) (some b.length),.int .i64 0]),h)):Con E (K + 1) 53 [.int .i64 n] (.tup [.sl false (bs b) (some b.length),.int .i64 0]):=by
  have s:=QB.skip_yes n ⟨h0,h1⟩ K (by omega) 0
  have q:=putI n h0 h1 K (by omega) 0
  refine con_of E_fn53 (by simp [AV.pureL,AV.pure]) (Nat.le_of_ble_eq_true rfl) rfl rfl (g:=[]) ?_
  rw [body_53,c53]
  simp [-s_round,s,q,P,QC.o_glob]
end Q18
end
section
open Ab Go TabE Sp E34 E53 E61 F1 Rw F5 F6 F7 F8 F23 F36 Q3 Q6 Q7 Q10 Q12 Q13 Q18
namespace Q19
mutual
theorem cnt_enc:∀ c:Cr,2 * cnt c ≤ ((enc c).length:Int)
  | .mk c k n b s => by
    have h:=cnts_enc s
    have t:=tagO_len c k n
    have l:=lenO_len (((b ++ encs s).length:Nat):Int)
    unfold cnt enc
    simp only [List.length_append] at *
    omega
theorem cnts_enc:∀ s:List Cr,2 * cnts s ≤ ((encs s).length:Int)
  | [] => by simp [cnts,encs]
  | x :: r => by
    have h:=cnt_enc x
    have h2:=cnts_enc r
    unfold cnts encs
    simp only [List.length_append]
    omega
end
theorem enc_mem {x:El}:∀ {l:List El},x ∈ l → (enc x.core).length ≤ (encs (El.cores l)).length
  | y :: r,h => by
    rw [El.cores,encs,List.length_append]
    rcases List.mem_cons.1 h with rfl | h
    · omega
    · have:=enc_mem h; omega
theorem fw_enc:∀ e:El,(enc e.core).length ≤ 1000 → E18.Fw 1000 e:=by
  refine El.ind fun e ih h => ?_
  rw [enc_eq] at h
  simp only [List.length_append] at h
  exact .mk e (by omega) fun x hx => ih x hx (by have:=enc_mem hx; omega)
theorem gd_of (e:El) (ho:e.ok) (hv:vld e.core) (hd:dep e.core ≤ 16) (hl:(enc e.core).length ≤ 100):Gd e :=
  ⟨ho,hv,fw_enc e (by omega),hd,by have:=cnt_enc e.core; omega,by omega⟩
theorem report0 (e:El) (f:Bool) (p:List AV) (c:Option Nat):Con E 10 102 [e.av,.agg [.sl f p c,.int .i64 0]] (.tup [.int .i64 0,.int .i64 0]):=by
  refine con_of E_fn102 (by simp [AV.pureL,AV.pure,El.av_pure]) (Nat.le_of_ble_eq_true rfl) rfl rfl (g:=[]) ?_
  rw [body_102,c102]
  simp [El.av_eq]
theorem rep (e:El) (g:Gd e) (p:List Int) (hp:p.length ≤ 1) (hw:∃ x,E34.walk e p=some x) (w:Int):∃ N,∀ K,N ≤ K → Rp K e p w (if w=0 then 0 else ofs e p):=by
  by_cases h:w=0
  · subst h
    exact ⟨10,fun K hK => report0 e _ _ _ K hK 0⟩
  · obtain ⟨x,hx⟩:=hw
    obtain ⟨N,O⟩:=F37.offset e g p.isEmpty p (some p.length) (by omega)
    rw [hx] at O
    rw [if_neg h]
    exact ⟨N + 20,fun K hK => F41.report e _ _ _ _ _ w h N O K hK 0⟩
theorem long (f:Bool) (b:List Int) (cp:Option Nat) (h:100 < b.length):Con E 201 10 [.sl f (bs b) cp] (.bool true):=by
  have lv:=Q17.lives 200 (by omega) 0
  have h':(100:Int) < b.length:=by omega
  refine con_of E_fn10 (by simp [AV.pureL,AV.pure]) (Nat.le_of_ble_eq_true rfl) rfl rfl (g:=[]) ?_
  rw [body_10,c10]
  simp [-s_round,lv,h']
theorem bad (K:Nat) (hK:200 ≤ K) (f:Bool) (b:List Int) (cp:Option Nat) (h:b.length ≤ 100) (x y:Int) (hy:y ≠ 0)
    (C:∀ h,aCall E K 0 47 [.sl f (bs b) cp] h=some (.ret (.tup [.agg [.int .i64 0,.int .i64 0],.int .i64 x,.int .i64 y]),h))
    (S:∀ h,aCall E K 0 48 [.sl f (bs b) cp] h=some (.ret (.tup [.int .i64 0,.int .i64 x,.int .i64 y]),h)) (G:Gt K f b cp (.tup [zv,.int .i64 x,.int .i64 y])):Con E (K + 1) 10 [.sl f (bs b) cp] (.bool true):=by
  have lv:=Q17.lives K hK 0
  have h':¬ (100:Int) < b.length:=by omega
  refine con_of E_fn10 (by simp [AV.pureL,AV.pure]) (Nat.le_of_ble_eq_true rfl) rfl rfl (g:=[]) ?_
  rw [body_10,c10]
  simp [zv] at G
  simp [-s_round,lv,h',C,S,G,hy,fitZ]
def Sok (K:Nat) (b:List Int) (n w:Int):Prop:=w=0 → ∀ h,aCall E K 0 53 [.int .i64 n] h=some (.ret (.tup [.sl false (bs b) (some b.length),.int .i64 0]),h)
theorem fin (K:Nat) (hK:200 ≤ K) (f:Bool) (b:List Int) (cp:Option Nat) (hb:isB b) (h:b.length ≤ 100) (e:El) (a c:Int) (p:List Int) (w n:Int)
    (C:∀ h,aCall E K 0 47 [.sl f (bs b) cp] h=some (.ret (.tup [.agg [.int .i64 a,.int .i64 c],.int .i64 (if w=0 then 0 else ofs e p),.int .i64 w]),h))
    (S:∀ h,aCall E K 0 48 [.sl f (bs b) cp] h=some (.ret (.tup [.int .i64 (sk e).1,.int .i64 0,.int .i64 (sk e).2]),h)) (G:Gt K f b cp (.tup [e.av,.int .i64 0,.int .i64 0]))
    (T:∀ h,aCall E K 0 43 [e.av] h=some (.ret (Q15.RR a c p w),h))
    (O:w ≠ 0 → ∀ h,aCall E K 0 50 [e.av,.sl p.isEmpty (ns p) (if p.isEmpty then some 0 else none)] h=some (.ret (.int .i64 (ofs e p)),h))
    (P:w=0 → p=[] ∧ ∀ h,aCall E K 0 51 [.agg [.int .i64 a,.int .i64 c]] h=some (.ret (.tup [.sl false (bs b) (some b.length),.int .i64 0]),h))
    (N:Q15.NbR K e) (Q:Sok K b (sk e).1 (sk e).2):Con E (K + 1) 10 [.sl f (bs b) cp] (.bool true):=by
  have lv:=Q17.lives K hK 0
  have h':¬ (100:Int) < b.length:=by omega
  have go:=bs_go hb
  have np:=ns_pure p
  refine con_of E_fn10 (by simp [AV.pureL,AV.pure]) (Nat.le_of_ble_eq_true rfl) rfl rfl (g:=[]) ?_
  rw [body_10,c10]
  unfold Gt at G
  rw [El.av_eq] at G T O
  unfold Sok at Q
  by_cases hw:w=0
  · obtain ⟨rfl,P⟩:=P hw
    subst hw
    simp at C T
    by_cases t:e.c=0 ∧ e.k=false ∧ e.n=2
    · have sk1:sk e=nu e.b:=by unfold sk; rw [if_pos t]
      rw [sk1] at S Q
      obtain ⟨t1,t2,t3⟩:=t
      simp only [t1,t2,t3] at G T
      by_cases z:(nu e.b).2=0
      · have Q:=Q z
        simp [-s_round,lv,h',C,S,G,T,P,N,Q,go,z,t1,t2,t3,fitZ]
      · simp [-s_round,lv,h',C,S,G,T,P,N,go,z,t1,t2,t3,fitZ]
    · have sk1:sk e=(0,9):=by unfold sk; rw [if_neg t]
      rw [sk1] at S
      by_cases t1:e.c=0
      · by_cases t2:e.k=false
        · have t3:¬ e.n=2:=fun q => t ⟨t1,t2,q⟩
          simp only [t1,t2] at G T
          simp [-s_round,lv,h',C,S,G,T,P,go,t1,t2,t3,fitZ]
        · have t2':e.k=true:=by simpa using t2
          simp only [t1,t2'] at G T
          simp [-s_round,lv,h',C,S,G,T,P,go,t1,t2',fitZ]
      · simp [-s_round,lv,h',C,S,G,T,P,go,t1,fitZ]
  · have O:=O hw
    simp only [List.isEmpty_iff] at O
    rw [if_neg hw] at C
    by_cases t:e.c=0 ∧ e.k=false ∧ e.n=2
    · have sk1:sk e=nu e.b:=by unfold sk; rw [if_pos t]
      rw [sk1] at S Q
      obtain ⟨t1,t2,t3⟩:=t
      simp only [t1,t2,t3] at G T O
      by_cases z:(nu e.b).2=0
      · have Q:=Q z
        simp [-s_round,lv,h',C,S,G,T,O,N,Q,go,z,t1,t2,t3,fitZ,np,hw]
      · simp [-s_round,lv,h',C,S,G,T,O,N,go,z,t1,t2,t3,fitZ,np,hw]
    · have sk1:sk e=(0,9):=by unfold sk; rw [if_neg t]
      rw [sk1] at S
      by_cases t1:e.c=0
      · by_cases t2:e.k=false
        · have t3:¬ e.n=2:=fun q => t ⟨t1,t2,q⟩
          simp only [t1,t2] at G T O
          simp [-s_round,lv,h',C,S,G,T,O,go,t1,t2,t3,fitZ,np,hw]
        · have t2':e.k=true:=by simpa using t2
          simp only [t1,t2'] at G T O
          simp [-s_round,lv,h',C,S,G,T,O,go,t1,t2',fitZ,np,hw]
      · simp [-s_round,lv,h',C,S,G,T,O,go,t1,fitZ,np,hw]
theorem law (f:Bool) (b:List Int) (cp:Option Nat) (hn:f=true → b=[]) (hb:isB b):∃ N,Con E N 10 [.sl f (bs b) cp] (.bool true):=by
  by_cases h:100 < b.length
  · exact ⟨_,long f b cp h⟩
  have GT:=get f b cp hn hb
  cases hr:rg b with
  | bad x y =>
    have y0:=rg_ne hr
    rw [hr] at GT
    have G:∀ K,b.length + 310 ≤ K → Gt K f b cp (.tup [zv,.int .i64 x,.int .i64 y]):=fun K hK => GT K hK 0
    exact ⟨_,bad (b.length + 312) (by omega) f b cp (by omega) x y y0 (getBad (b.length + 310) f b cp x y y0 (G _ (by omega)) _ (by omega) 0) (skipBad (b.length + 310) f b cp x y y0 (G _ (by omega)) _ (by omega) 0) (G _ (by omega))⟩
  | ok c n m =>
    obtain ⟨r1,r2,r3,r4,r5,r6⟩:=rg_ok hb hr
    rw [hr] at GT
    have dc:=dec1_core c
    have d1:=ok_of (dec1 c) (by rw [dc]; exact r3) (by rw [dc]; exact r4) (by rw [dc,r2]; omega)
    have G:∀ K,b.length + 310 ≤ K → Gt K f b cp (.tup [(dec1 c).av,.int .i64 0,.int .i64 0]):=fun K hK => GT K hK 0
    have ec:enc (dec1 c).core=b:=by rw [dc,r2]
    have g:=gd_of (dec1 c) d1.1 (by rw [dc]; exact r4) (by rw [dc]; exact r6) (by rw [ec]; omega)
    generalize dec1 c=e at G ec g
    have bl:e.b.length ≤ 100:=by
      have:=congrArg List.length ec
      rw [enc_eq] at this
      simp only [List.length_append] at this
      omega
    have sl:∀ x ∈ e.s,x.b.length ≤ 1000:=fun x hx => by obtain ⟨_,q⟩:=(g.sub hx).fw; assumption
    obtain ⟨N1,a,c',p,w,hq⟩:=Q16.both e g.ok (by have:=g.sl; omega) (fun x hx => by have:=sl x hx; omega)
    rcases hq with ⟨A,B,hp,hz,_,_,hwk⟩ | ⟨_,_,hne⟩
    case inr => exact absurd g.chk hne
    obtain ⟨N2,RP⟩:=rep e g p hp hwk w
    obtain ⟨N3,RS⟩:=rep e g [] (by simp) ⟨e,rfl⟩ (sk e).2
    have NB:∀ K,21 ≤ K → Nb K e:=fun K hK => Q11.number e.fb e.cb e.b (fun y hy => g.ok.bb y hy) (by omega) K hK 0
    have NR:∀ K,21 ≤ K → Q15.NbR K e:=fun K hK => number19 e.fb e.cb e.b (fun y hy => g.ok.bb y hy) (by omega) K hK 0
    obtain ⟨N4,PS⟩:∃ N,∀ K,N ≤ K → Sok K b (sk e).1 (sk e).2:=by
      by_cases t:e.c=0 ∧ e.k=false ∧ e.n=2
      case neg =>
        refine ⟨0,fun K hK h => ?_⟩
        unfold sk at h; rw [if_neg t] at h; cases h
      have sk1:sk e=nu e.b:=by unfold sk; rw [if_pos t]
      by_cases z:(nu e.b).2=0
      case neg =>
        refine ⟨0,fun K hK h => ?_⟩
        rw [sk1] at h; exact absurd h z
      have n0:=Q16.nu0 z
      have bk:=back e.b g.ok.bb _ n0
      have vl:=g.vld
      rw [vld_eq] at vl
      have s0:=vl.2.2.1 t.2.1
      have co:(El.mk 0 false 2 false (pI (nu e.b).1) (some (pI (nu e.b).1).length) true [] (some 0)).core=e.core:=by
        rw [El.core_eq e,t.1,t.2.1,t.2.2,s0]
        show Cr.mk 0 false 2 (pI (nu e.b).1) (El.cores [])=_
        rw [bk.2]
      have yo:(El.mk 0 false 2 false (pI (nu e.b).1) (some (pI (nu e.b).1).length) true [] (some 0)).ok:=by
        rw [El.ok_eq]
        exact ⟨by simp [El.c],by simp [El.n],by show isB (pI _); rw [bk.2]; exact g.ok.bb,by show (pI _).length ≤ _; rw [bk.2]; omega,by simp [El.s],fun y hy => by cases hy⟩
      have ys:(El.mk 0 false 2 false (pI (nu e.b).1) (some (pI (nu e.b).1).length) true [] (some 0)).sm:=by
        rw [El.sm_eq]
        exact ⟨by show (pI _).length ≤ _; rw [bk.2]; omega,by simp [El.s],fun y hy => by cases hy⟩
      obtain ⟨N,PU⟩:=E10.put_ok _ yo ys (by rw [co]; exact g.chk) (by rw [co]; have:=g.len; omega)
      rw [co,ec] at PU
      refine ⟨N + 61,fun K hK h => ?_⟩
      obtain ⟨K,rfl⟩:∃ k,K=k + 1:=⟨K - 1,by omega⟩
      rw [sk1]
      exact putSkip (N + 60) (by omega) _ bk.1.1 bk.1.2 b (PU (N + 60) (by omega) 0) (K + 1) (by omega) 0
    obtain ⟨N5,PC⟩:∃ N,∀ K,N ≤ K → w=0 → p=[] ∧ ∀ h,aCall E K 0 51 [.agg [.int .i64 a,.int .i64 c']] h=some (.ret (.tup [.sl false (bs b) (some b.length),.int .i64 0]),h):=by
      by_cases hw:w=0
      case neg => exact ⟨0,fun K hK h => absurd h hw⟩
      obtain ⟨p0,_,y,yc,yo,D⟩:=hz hw
      have ysm:=(ok_of y (by rw [yc]; exact okc_of e g.ok) (by rw [yc]; exact g.vld) (by rw [yc]; have:=g.len; omega)).2
      obtain ⟨N,PU⟩:=E10.put_ok y yo ysm (by rw [yc]; exact g.chk) (by rw [yc]; have:=g.len; omega)
      rw [yc,ec] at PU
      exact ⟨N + 61,fun K hK _ => ⟨p0,put (N + 60) (by omega) e y a c' (D (N + 60) (by omega) 0) b (PU (N + 60) (by omega) 0) K (by omega) 0⟩⟩
    obtain ⟨x,hx⟩:=hwk
    obtain ⟨N6,OF⟩:=F40.offset e x g p.isEmpty p (if p.isEmpty then some 0 else none) (by omega) hx
    obtain ⟨K,hK⟩:∃ K,N1 + N2 + N3 + N4 + N5 + N6 + b.length + 400=K:=⟨_,rfl⟩
    have o0:(if (sk e).2=0 then (0:Int) else ofs e [])=0:=by split <;> rfl
    have GC:=getOk K f b cp e a c' p w _ (G _ (by omega)) (A _ (by omega) 0) (RP K (by omega)) (K + 2) (by omega) 0
    have GS:=skipOk (K + 1) f b cp e (sk e).1 (sk e).2 _ (G _ (by omega)) (clos K e (NB K (by omega)) (K + 1) (by omega) 0) (RS (K + 1) (by omega)) (K + 3) (by omega) 0
    rw [o0] at GS
    refine ⟨_,fin (K + 3) (by omega) f b cp hb (by omega) e a c' p w 0 ?_ GS (G _ (by omega)) (B _ (by omega) 0) (fun _ => OF _ (by omega) 0) (PC _ (by omega)) (NR _ (by omega)) (PS _ (by omega))⟩
    exact getOk K f b cp e a c' p w _ (G _ (by omega)) (A _ (by omega) 0) (RP K (by omega)) (K + 3) (by omega) 0
end Q19
end
end
