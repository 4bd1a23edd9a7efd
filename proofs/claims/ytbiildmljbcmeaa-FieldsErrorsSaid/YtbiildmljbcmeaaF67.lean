/- Own work, no conditions. -/
import Derived.Test.YtbiildmljbcmeaaF30
import Derived.Test.YtbiildmljbcmeaaF31
import Derived.Test.YtbiildmljbcmeaaF36
import Derived.Test.YtbiildmljbcmeaaF4
import Derived.Test.YtbiildmljbcmeaaE12
import Derived.Test.YtbiildmljbcmeaaE25
set_option maxRecDepth 20000
set_option linter.unusedSimpArgs false
set_option linter.unusedVariables false
set_option maxHeartbeats 16000000
section
open Ab Go TabE
attribute [local simp ↓] s_seq s_reg s_regd s_cond s_block s_cons s_consG s_regD
attribute [local simp] s_nil s_loop s_round s_lpn s_lpe s_lpr firstReg s_gt s_gf s_wb s_wu s_val s_valN s_skip s_calls s_callP s_cax lookR flatR pureKs s_ret s_rgx s_sqn s_sqr s_sqe s_cdb s_bkn s_bkr s_bke s_exit s_ret' s_skip' s_finr s_finn s_fin1 s_fix s_clean s_gc0 o_tmp o_int o_bool o_nil o_str o_fn o_nil' l_hit l_miss l_nil ol_nil ol_cons ol_some x_move x_assign x_pick pk_t pk_f x_bin bn_s x_un x_extract x_callF cl_no x_callB x_callBF frzV x_conv cvx convA frame0 binA intOp resL resA results1 sealLW AV.pure AV.pureL keepT x_alloc x_box bxx x_build bdx x_buildSlice bsx x_buildSliceF bsf x_load ldx x_store stx x_slice slx x_fieldAddr x_field x_index ixx x_indexAddr iax x_makeSlice msx x_makeSliceF msf x_nilCheck newK genOf setK lookK fillA writeL writeC readC conts TyI.mk1 sliceA boundsA boundsB fitsA numA indexAddrA fieldAddrA partA fieldA indexA appendA copyA builtinA AV.cells chunk gcH reach keysT keepK inKs AV.keys AV.keysL Ty.isAgg eq1 eqL convA.go ltI w_u8 w_u32 w_u64 w_i64 w_fdiv w_tdiv w_tmod IntKind.bits unA sc_int sc_bool sc_str sc_sl sc_ref sc_ptr sc_pel sc_nilp sc_fn sc_nilf sc_if sc_nili sc_agg sc_tup sc_mem bs_pure bs_kl bs_length bs_cells bs_all sl_row sealRow sealY sl_int sl_bool sl_str sl_sl sl_nilp sl_nilf sl_nili sl_pel sl_agg sl_tup sl_fn sl_if nat_1 bs_cons bs_nil i_beq i_bne x_mkF x_mkI x_tassert x_panic s_pan s_sqp s_bkp s_finp s_fixp s_lpp s_rgp s_retp s_site s_stxN s_stxO x_callT clx El.avs_len s_dyn0 s_rgy barOf dynChk footL dynOK disjK keysOp opVals Op.operands
section
open Ab Go TabE Sp E34 F1 F4 F5 F23 F31 F36 F38 F39
namespace F40
abbrev LpR (K:Nat):=aLoop (aCode E (aCall E K) (dcall (aRun E K)) K 1 fn64 bR) (cleanS 1 ((firstReg bR).bind fn64.head))
abbrev OutR (f:Bool) (ps:List Int) (c:Option Nat) (n:Int) (e:El):AExit × St:=(.exit 0,⟨[(1,.sl f (ns ps) c),(2,.ptr (1,2,0) 0),(5,.int .i64 n),(6,.int .i64 (ps.length:Int)),(12,.bool false)],[((1,2,0),bx (ec e))]⟩)
theorem last (q k1:Nat) (f ps c) (n:Int) (e:El):rnd fn64 bR q k1 (F39.SR f ps c ps.length n e)=some (OutR f ps c n e):=by
  have ln:=ns_len ps
  simp [bR,lp,lps,c64,ln]
theorem encs (e:El) (g:Gd e):∃ N,∀ K,N ≤ K → (∃ c,∀ h,aCall E K 0 84 [e.av] h=some (.ret (.sl false (bs (enc e.core)) c),h)) ∧ ∀ x ∈ e.s,∃ c,∀ h,aCall E K 0 84 [x.av] h=some (.ret (.sl false (bs (enc x.core)) c),h):=by
  obtain ⟨N1,h1⟩:=F19.renc e g.ok g.vld g.len
  obtain ⟨N2,h2⟩:=unif (P:=fun (x:El) (n:Nat) => Con E n 84 [x.av] (.sl false (bs (enc x.core)) none)) (fun x n m h hm => h.mono hm) e.s (fun x hx => F19.renc x (g.sub hx).ok (g.sub hx).vld (g.sub hx).len)
  exact ⟨N1 + N2,fun K hK => ⟨⟨none,fun h => h1 K (by omega) 0 h⟩,fun x hx => ⟨none,fun h => h2 x hx K (by omega) 0 h⟩⟩⟩
theorem loop:∀ (r:List Int) (e x:El),Gd e → E34.walk e r=some x → ∃ N,∀ K,N ≤ K → ∀ (f:Bool) (ps:List Int) (c:Option Nat) (i k:Nat) (n:Int),ps.length ≤ 30 → ps.drop i=r → i ≤ ps.length → 0 ≤ n → n ≤ 60000 * i → r.length < k →
    LpR K k (F39.SR f ps c i n e)=some (OutR f ps c (n + ofs e r) x)
  | [],e,y,g,hw => ⟨0,fun K hK f ps c i k n lp' h1 hi n0 n1 hk => by
    obtain ⟨k,rfl⟩:∃ j,k=j + 1:=⟨k - 1,by omega⟩
    have q:=congrArg List.length h1
    rw [List.length_drop,List.length_nil] at q
    obtain rfl:i=ps.length:=by omega
    have h:=aLoop_end (k:=k) (last K K f ps c n e) (fun h => by cases h)
    unfold E34.walk at hw
    cases hw
    unfold ofs
    simpa using h⟩
  | p :: r,e,y,g,hw => by
    have sl:=g.sl
    unfold E34.walk at hw
    split at hw
    · cases hw
    rename_i p0
    split at hw
    case h_2 => cases hw
    rename_i x hx
    have hm:p.toNat < e.s.length:=(List.getElem?_eq_some_iff.1 hx).1
    have gx:=g.sub (List.mem_of_getElem? hx)
    obtain ⟨N1,h1⟩:=encs e g
    obtain ⟨N2,h2⟩:=loop r x y gx hw
    refine ⟨N1 + N2 + e.s.length + 20,fun K hK f ps c i k n lp' h1' hi n0 n1 hk => ?_⟩
    obtain ⟨k,rfl⟩:∃ j,k=j + 1:=⟨k - 1,by omega⟩
    have hp:ps[i]? = some p:=by
      have:=congrArg (fun l => l[0]?) h1'
      simpa [List.getElem?_drop] using this
    have hd:ps.drop (i + 1)=r:=by
      have:=congrArg List.tail h1'
      simpa [List.tail_drop] using this
    have q:=congrArg List.length h1'
    rw [List.length_drop,List.length_cons] at q
    have l1:=g.len
    have l2:=drop_le e.s p.toNat
    have l3:=encs_le e
    obtain ⟨⟨ca,c1⟩,c2⟩:=h1 K (by omega)
    have I:=iloop K f ps c n i e (by omega) c2 (e.s.drop p.toNat) p.toNat K 0 rfl (by omega) (by omega) (by omega) (by rw [List.length_drop]; omega)
    rw [Int.zero_add] at I
    have pp:((p.toNat:Nat):Int)=p:=Int.toNat_of_nonneg (by omega)
    have s:=F39.go K f ps c i n e x p.toNat (by rw [pp]; exact hp) (by omega) (by omega) hx n0 (by omega) _ ca _ (by omega) (by omega) (by omega) c1 I
    unfold LpR
    rw [aLoop_succ s]
    have h:=h2 K (by omega) f ps c (i + 1) k (n + (((enc e.core).length:Int) - (Sp.encs (El.cores (e.s.drop p.toNat))).length)) lp' hd (by omega) (by omega) (by push_cast; omega) (by simp at hk; omega)
    unfold LpR at h
    rw [h]
    have ho:ofs e (p :: r)=(((enc e.core).length:Int) - (Sp.encs (El.cores (e.s.drop p.toNat))).length) + ofs x r:=by
      conv => lhs; unfold ofs
      rw [hx]
    rw [ho,Int.add_assoc]
theorem offset (e x:El) (g:Gd e) (f:Bool) (ps:List Int) (c:Option Nat) (lp':ps.length ≤ 30) (hw:E34.walk e ps=some x):∃ N,Con E N 64 [e.av,.sl f (ns ps) c] (.int .i64 (ofs e ps)):=by
  obtain ⟨N1,h1⟩:=loop ps e x g hw
  obtain ⟨K,hK⟩:∃ K,N1 + 60=K:=⟨_,rfl⟩
  have L:=h1 K (by omega) f ps c 0 K 0 lp' rfl (by omega) (by omega) (by omega) (by omega)
  rw [Int.zero_add] at L
  have pn:=ns_pure ps
  refine ⟨K + 1,con_of E_fn64 (by simp [AV.pureL,AV.pure,El.av_pure,pn]) (Nat.le_of_ble_eq_true rfl) rfl rfl (g:=[]) ?_⟩
  rw [body_64,c64]
  simp [LpR,bR,lp,lps,c64,firstReg,F39.SR,ec] at L
  simp [El.av_eq,-s_round,L]
end F40
end
section
open Ab Go TabE Sp E34 F1 F4 F5 F20 F21 F23 F31 F36 F43 F44 F45 F46 F47 F62 F63 F64
namespace F65
theorem opk {run:RunF} {slot:Nat} {cs:List AV} {d l r l':Int} {h:Heap} {key:Key} (hp:AV.pureL cs=true) (hk:lookK h key=some (bx [.int .i64 l]))
    (hr:run 65 [.agg cs,.ptr (0,0,0) 0,.int .i64 d] [((0,0,0),bx [.int .i64 l])]=some (.ret (.int .i64 r),[((0,0,0),bx [.int .i64 l'])])) :
    opened [false,true,false] true run slot 65 [.agg cs,.ptr key 0,.int .i64 d] h=some (.ret (.int .i64 r),setK h key (bx [.int .i64 l'])):=by
  have e1:sealM (sealA 20) [false,true,false] h [.agg cs,.ptr key 0,.int .i64 d]=some ([.agg cs,.ptr key 0,.int .i64 d],h):=by
    simp [sealM,sl_agg,sl_int,hp]
  have k1:AV.keysL cs=[]:=AV.keysL_pure _ hp
  have r1:∀ φ,AV.rnL φ cs=cs:=fun φ => rnL_pure cs hp
  unfold opened
  rw [e1]
  have e2:AV.keysL [.agg cs,.ptr key 0,.int .i64 d]=[key]:=by simp [AV.keysL,AV.keys,k1]
  simp only [e2]
  have e3:dd (reach h 3 [key])=[key]:=by simp [reach,hk,AV.keysL,AV.keys,dd]
  rw [e3]
  unfold lendA
  have e4:lendH h (inK [key]) [key]=some [((0,0,0),bx [.int .i64 l])]:=by simp [lendH,hk,inK,posK,AV.rnL,AV.rn]
  rw [e4]
  have e6:closedH h [key] [key]=true:=by simp [closedH,hk,AV.keysL,AV.keys]
  simp only [e2]
  rw [if_pos ⟨e6,by simp [inKs]⟩]
  have e5:AV.rnL (inK [key]) [.agg cs,.ptr key 0,.int .i64 d]=[.agg cs,.ptr (0,0,0) 0,.int .i64 d]:=by simp [AV.rnL,AV.rn,inK,posK,r1]
  rw [e5,hr]
  have e9:lentKs 1=[(0,0,0)]:=rfl
  have e7:dd (reach [((0,0,0),bx [AV.int .i64 l'])] 3 ([(0,0,0)] ++ []))=[(0,0,0)]:=by kernel_rfl
  have e10:closedH [((0,0,0),bx [AV.int .i64 l'])] [(0,0,0)] [(0,0,0)]=true:=by kernel_rfl
  have e8:AV.keysL [AV.int .i64 r]=[]:=rfl
  have e11:∀ g:Heap,sealA 20 g (AV.int .i64 r)=some (AV.int .i64 r,g):=fun g => rfl
  simp only [backR,if_true,e11,backV,Ab.back,List.length_singleton,e8,e9,e7,backA]
  rw [if_pos ⟨e10,by rfl,by rfl,by rfl⟩]
  simp [AV.rnL,AV.rn,outK,posK,putAll,lookK]
theorem offset_bad (e:El) (f ps c) (w:Int) (hw:w ≠ 0) (N:Nat) (C:Con E N 21 [e.av] (.tup [.sl true [] (some 0),.int .i64 w])):Con E (N + 20) 63 [e.av,.sl f (ns ps) c] (.tup [.int .i64 0,.int .i64 w]):=by
  obtain ⟨K,hK⟩:∃ K,N + 19=K:=⟨_,rfl⟩
  rw [show N + 20=K + 1 from by omega]
  have c1:=C K (by omega) 0
  have pn:=ns_pure ps
  rw [El.av_eq] at c1
  refine con_of E_fn63 (by simp [AV.pureL,AV.pure,El.av_pure,pn]) (Nat.le_of_ble_eq_true rfl) rfl rfl (g:=[]) ?_
  rw [body_63,c63]
  simp [El.av_eq,c1,hw]
theorem sealTN {e:El} {h:Heap} {l:Key} (hb:e.b=[]) (h2:lookK h l=some (er (e.s.map clo))):∃ g,sealA 20 h (.tup [CV e (.sl e.fb [] (some 0)) l,.int .i64 0])=some (.tup [(clo e).av,.int .i64 0],g):=by
  have s2:sealA 18 h (.ref l 0 (e.s.map clo).length (some e.s.length))=_:=seal_els 16 h l (e.s.map clo) (some e.s.length) h2
  rw [List.length_map] at s2
  refine ⟨setK h l { er (e.s.map clo) with mt:=false },?_⟩
  rw [cl_av,hb]
  have a1:∀ g,sealA 18 g (.int .u8 e.c)=some (.int .u8 e.c,g):=fun g => rfl
  have a2:∀ g,sealA 18 g (.bool e.k)=some (.bool e.k,g):=fun g => rfl
  have a3:∀ g,sealA 18 g (.int .u32 e.n)=some (.int .u32 e.n,g):=fun g => rfl
  have a4:∀ g,sealA 18 g (.sl e.fb [] (some 0))=some (.sl e.fb [] (some 0),g):=fun g => rfl
  have a5:∀ g,sealA 19 g (.int .i64 0)=some (.int .i64 0,g):=fun g => rfl
  have a6:sealA 19 h (CV e (.sl e.fb [] (some 0)) l)=some (.agg [.int .u8 e.c,.bool e.k,.int .u32 e.n,.sl e.fb [] (some 0),.sl false (El.avs (e.s.map clo)) (some e.s.length)],setK h l { er (e.s.map clo) with mt:=false }):=by
    rw [show sealA 19 h (CV e (.sl e.fb [] (some 0)) l)=_ from sl_agg 18 h _]
    rw [if_neg (by simp [AV.pureL,AV.pure])]
    simp only [sealLW,a1,a2,a3,a4,s2]
    rfl
  rw [show sealA 20 h (.tup [CV e (.sl e.fb [] (some 0)) l,.int .i64 0])=_ from sl_tup 19 h _]
  rw [if_neg (by simp [AV.pureL,AV.pure])]
  simp only [sealLW,a6,a5]
  try rfl
theorem sealTR {e:El} {h:Heap} {ex:Bool} {k l:Key} (hf:e.fb=false) (kl:k ≠ l) (h1:lookK h k=some (br e.b ex)) (h2:lookK h l=some (er (e.s.map clo))):∃ g,sealA 20 h (.tup [CV e (.ref k 0 e.b.length (some e.b.length)) l,.int .i64 0])=some (.tup [(clo e).av,.int .i64 0],g):=by
  have s1:sealA 18 h (.ref k 0 e.b.length (some e.b.length))=_:=seal_row 16 h k e.b ex (some e.b.length) h1
  have s2:sealA 18 (setK h k { br e.b ex with mt:=false }) (.ref l 0 (e.s.map clo).length (some e.s.length))=_:=seal_els 16 (setK h k { br e.b ex with mt:=false }) l (e.s.map clo) (some e.s.length) (by rw [lookK_setK_other _ _ _ _ kl]; exact h2)
  rw [List.length_map] at s2
  refine ⟨setK (setK h k { br e.b ex with mt:=false }) l { er (e.s.map clo) with mt:=false },?_⟩
  rw [cl_av,hf]
  have a1:∀ g,sealA 18 g (.int .u8 e.c)=some (.int .u8 e.c,g):=fun g => rfl
  have a2:∀ g,sealA 18 g (.bool e.k)=some (.bool e.k,g):=fun g => rfl
  have a3:∀ g,sealA 18 g (.int .u32 e.n)=some (.int .u32 e.n,g):=fun g => rfl
  have a5:∀ g,sealA 19 g (.int .i64 0)=some (.int .i64 0,g):=fun g => rfl
  have a6:sealA 19 h (CV e (.ref k 0 e.b.length (some e.b.length)) l)=some (.agg [.int .u8 e.c,.bool e.k,.int .u32 e.n,.sl false (bs e.b) (some e.b.length),.sl false (El.avs (e.s.map clo)) (some e.s.length)],setK (setK h k { br e.b ex with mt:=false }) l { er (e.s.map clo) with mt:=false }):=by
    rw [show sealA 19 h (CV e (.ref k 0 e.b.length (some e.b.length)) l)=_ from sl_agg 18 h _]
    rw [if_neg (by simp [AV.pureL,AV.pure])]
    simp only [sealLW,a1,a2,a3,s1,s2]
    rfl
  rw [show sealA 20 h (.tup [CV e (.ref k 0 e.b.length (some e.b.length)) l,.int .i64 0])=_ from sl_tup 19 h _]
  rw [if_neg (by simp [AV.pureL,AV.pure])]
  simp only [sealLW,a6,a5]
  try rfl
theorem at_con (e:El) (wd:Wd e) (nn:E31.Nn e) (sh:E33.Sh e) (f:Bool) (ps:List Int) (c:Option Nat) (lp':ps.length ≤ 1000):∃ N,Con E N 62 [e.av,.sl f (ns ps) c] (match E34.walk e ps with
    | some x => .tup [(clo x).av,.int .i64 0]
    | none => .tup [.agg z5,.int .i64 19]):=by
  have pn:=ns_pure ps
  have pa:AV.pureL [e.av,.sl f (ns ps) c]=true:=by simp [AV.pureL,El.av_pure,AV.pure,pn]
  cases hw:E34.walk e ps with
  | none =>
    obtain ⟨N,R⟩:=at_none e wd f ps c lp' hw
    exact ⟨N,Con.ofRun pa R (g:=[((1,4,0),bx z5)]) rfl rfl⟩
  | some x =>
    have nx:E31.Nn x:=walk_P (P:=E31.Nn) (fun e h y hy => by cases h with | mk _ _ _ r => exact r y hy) ps e x nn hw
    have sx:E33.Sh x:=walk_P (P:=E33.Sh) (fun e h y hy => by cases h with | mk _ _ _ r => exact r y hy) ps e x sh hw
    have pv:(AV.tup [(clo x).av,.int .i64 0]).pure=true:=by simp [AV.pure,AV.pureL,El.av_pure]
    by_cases hb:x.b=[]
    · obtain ⟨N,h,R,q⟩:=at_N e x wd nx sx hb f ps c lp' hw
      obtain ⟨g,hg⟩:=sealTN hb q
      exact ⟨N,Con.ofRun pa R hg pv⟩
    · have hf:x.fb=false:=by
        obtain ⟨_,n1,_,_⟩:=nx
        cases q:x.fb
        · rfl
        · exact absurd (n1 q) hb
      obtain ⟨N,h,R,q1,q2⟩:=at_R e x wd nx sx hf hb f ps c lp' hw
      obtain ⟨g,hg⟩:=sealTR hf (by simp) q1 q2
      exact ⟨N,Con.ofRun pa R hg pv⟩
theorem fe_mono {B S B' S':Nat} (hB:B ≤ B') (hS:S ≤ S'):∀ e:El,FW.Fe B S e → FW.Fe B' S' e:=by
  refine El.ind fun e ih h => ?_
  obtain ⟨_,h1,h2,h3⟩:=h
  exact .mk e (by omega) (by omega) fun x hx => ih x hx (h3 x hx)
theorem fe_wd:∀ e:El,FW.Fe 200 60 e → Wd e:=by
  refine El.ind fun e ih h => ?_
  obtain ⟨_,h1,h2,h3⟩:=h
  exact .mk e (by omega) fun x hx => ih x hx (h3 x hx)
theorem fe_sh:∀ e:El,FW.Fe 200 60 e → E33.Sh e:=by
  refine El.ind fun e ih h => ?_
  obtain ⟨_,h1,h2,h3⟩:=h
  exact .mk e (by omega) (by omega) fun x hx => ih x hx (h3 x hx)
theorem gd_of (e:El) (he:e.ok) (hf:FW.Fe 200 60 e) (hc:cnt e.core ≤ 60) (hv:(chk e.core 1 0 0).1=0):Gd e:=by
  have cd:=chk_dep e.core 1 0 0 hv
  have d1:=dep_pos e.core
  have l:=E18.fw_len e (FW.fe_fw e hf)
  have bd:=E4.chk_bd e.core 1 0 0 (by omega) (by omega) (by omega) (by omega)
  exact ⟨he,vld_of _ _ _ _ hv,FW.fe_fw e (fe_mono (by omega) (Nat.le_refl _) e hf),by omega,hc,by omega⟩
end F65
end
section
open Ab Go TabE Sp E34 F1 F4 F5 F20 F21 F62 F64
namespace F66
theorem lives (e:El) (f ps c) (z0 z1:Int) (K:Nat) (hK:300 ≤ K) (r l':Int) (hl:r=0 ∨ 30 < ps.length)
    (fw:aRun E K 65 [.agg (ec e),.ptr (0,0,0) 0,.int .i64 0] [((0,0,0),bx [.int .i64 60])]=some (.ret (.int .i64 r),[((0,0,0),bx [.int .i64 l'])])) :
    Con E (K + 1) 16 [e.av,.sl f (ns ps) c,.agg [.int .i64 z0,.int .i64 z1]] (.bool true):=by
  have o:=fun slot h hk => F65.opk (slot:=slot) (h:=h) (key:=(1,7,0)) (l:=60) (by rfl) hk fw
  have lv:=LW.l12 K (by omega) 0
  have pn:=ns_pure ps
  have ln:=ns_len ps
  refine con_ofO E_fn16 (by simp [AV.pureL,El.av_pure,AV.pure,pn]) (Nat.le_of_ble_eq_true rfl) rfl (g:=[]) ?_
  rw [body_16,c16]
  by_cases hr:r=0
  · subst hr
    simp [El.av_eq,o,lv,ln]
  · have hl:30 < ps.length:=hl.resolve_left hr
    have hl':(30:Int) < ps.length:=by omega
    simp [El.av_eq,o,lv,ln,hl,hl',hr]
abbrev l3:List F6.Fld:=[⟨0,false,0,true,true⟩,⟨0,false,2,false,false⟩,⟨0,false,0,true,false⟩]
theorem main (e y:El) (f ps c) (z0 z1:Int) (K:Nat) (hK:600 ≤ K) (lp':ps.length ≤ 30) (le:e.s.length ≤ 1000) (l':Int)
    (fw:aRun E K 65 [.agg (ec e),.ptr (0,0,0) 0,.int .i64 0] [((0,0,0),bx [.int .i64 60])]=some (.ret (.int .i64 1),[((0,0,0),bx [.int .i64 l'])]))
    (cp:∀ h,aCall E K 0 66 [e.av] h=some (.ret y.av,h))
    (i0:Nat) (w:Wn) (L:LpW K K (SW f ps c z0 z1 e y 0 .no)=some (OutW f ps c z0 z1 e y i0 w)) (o:Option (Nat × Int)) (hm:F64.mt o w)
    (hO:∀ h,aCall E K 0 51 [e.av] h=some (.ret (fF (oP o) (oE o)),h))
    (xa xr:El) (ne pe oa oe ro:Int) (is:Bool) (pb:AV) (pp:pb.pure=true)
    (hP:∀ h,aCall E K 0 21 [e.av] h=some (.ret (.tup [pb,.int .i64 pe]),h))
    (hF:∀ h,aCall E K 0 63 [e.av,.sl f (ns ps) c] h=some (.ret (.tup [.int .i64 oa,.int .i64 oe]),h))
    (hA:∀ h,aCall E K 0 62 [e.av,.sl f (ns ps) c] h=some (.ret (.tup [.agg (ec xa),.int .i64 ne]),h))
    (hR:∀ h,aCall E K 0 61 [e.av,.sl f (ns ps) c] h=some (.ret (.tup [.agg (ec xr),.bool is]),h))
    (hS:is=true → ∀ h,aCall E K 0 49 [.agg (ec xa),.agg (ec xr)] h=some (.ret (.int .i64 1),h))
    (h1:is=true ∧ ne=0 ∨ is=false ∧ ne=19)
    (h2:(pe ≠ 0 ∧ oe=pe ∧ oa=0) ∨ (pe=0 ∧ (is=true ∧ oe=0 ∧ ro=oa ∧ (∀ h,aCall E K 0 64 [e.av,.sl f (ns ps) c] h=some (.ret (.int .i64 ro),h)) ∨ is=false ∧ oe=19)))
    (hy:∀ h,aCall E K 0 49 [e.av,y.av] h=some (.ret (.int .i64 1),h))
    (u1 u2:AV) (q1:u1.pure=true) (q2:u2.pure=true) (g1 g2 g3 g4 g5 g6:Bool) (P1 P2 P3 P4 P5 P6:List Int) (c1 c2 c3 c4 c5 c6:Option Nat) (w1 w2 w3 w4 w5 w6:Int)
    (S1:∀ h,aCall E K 0 45 [e.av,.agg [.int .u8 e.c,.bool e.k,.int .u32 e.n],.sl false (l3.map F6.Fld.av) (some 3)] h=some (.ret (.tup [u1,.agg [.sl g1 (ns P1) c1,.int .i64 w1]]),h))
    (S2:∀ h,aCall E K 0 46 [e.av,.agg [.int .u8 e.c,.bool e.k,.int .u32 e.n],.sl false (l3.map F6.Fld.av) (some 3)] h=some (.ret (.tup [u2,.agg [.sl g2 (ns P2) c2,.int .i64 w2]]),h))
    (L1:∀ h,aCall E K 0 56 [e.av,.agg [.int .u8 e.c,.bool e.k,.int .u32 e.n],.int .i64 z0,.int .i64 z1] h=some (.ret (.agg [.sl g3 (ns P3) c3,.int .i64 w3]),h))
    (L2:∀ h,aCall E K 0 57 [e.av,.agg [.int .u8 e.c,.bool e.k,.int .u32 e.n],.int .i64 z0,.int .i64 z1] h=some (.ret (.agg [.sl g4 (ns P4) c4,.int .i64 w4]),h))
    (X1:∀ h,aCall E K 0 58 [e.av,.int .u32 e.n] h=some (.ret (.agg [.sl g5 (ns P5) c5,.int .i64 w5]),h))
    (X2:∀ h,aCall E K 0 59 [e.av,.int .u32 e.n] h=some (.ret (.agg [.sl g6 (ns P6) c6,.int .i64 w6]),h))
    (I1:∀ h,aCall E K 0 47 [u1,u2] h=some (.ret (.int .i64 1),h))
    (G1:∀ h,aCall E K 0 48 [.agg [.sl g1 (ns P1) c1,.int .i64 w1],.agg [.sl g2 (ns P2) c2,.int .i64 w2]] h=some (.ret (.int .i64 1),h))
    (G2:∀ h,aCall E K 0 48 [.agg [.sl g3 (ns P3) c3,.int .i64 w3],.agg [.sl g4 (ns P4) c4,.int .i64 w4]] h=some (.ret (.int .i64 1),h))
    (G3:∀ h,aCall E K 0 48 [.agg [.sl g5 (ns P5) c5,.int .i64 w5],.agg [.sl g6 (ns P6) c6,.int .i64 w6]] h=some (.ret (.int .i64 1),h)) :
    Con E (K + 1) 16 [e.av,.sl f (ns ps) c,.agg [.int .i64 z0,.int .i64 z1]] (.bool true):=by
  have of:=fun slot h hk => F65.opk (slot:=slot) (h:=h) (key:=(1,7,0)) (l:=60) (by rfl) hk fw
  have lv:=LW.l12 K (by omega) 0
  have pn:=ns_pure ps
  have ln:=ns_len ps
  have m1:=ns_pure P1
  have m2:=ns_pure P2
  have m3:=ns_pure P3
  have m4:=ns_pure P4
  have m5:=ns_pure P5
  have m6:=ns_pure P6
  have kp:=AV.keys_pure _ pp
  have k7:=AV.keys_pure _ q1
  have k8:=AV.keys_pure _ q2
  have sx1:=fun (h:Heap) (hk:lookK h (1,166,0)=some ⟨Rw.row F6.Fld.cells l3,true,true,true,5,true⟩) => Rw.rseal F6.Fld.cl 18 h (1,166,0) l3 (some 3) true true hk
  have sx2:=fun (h:Heap) (hk:lookK h (1,166,0)=some ⟨Rw.row F6.Fld.cells l3,true,false,true,5,true⟩) => Rw.rseal F6.Fld.cl 18 h (1,166,0) l3 (some 3) false true hk
  simp [l3,F6.Fld.av,Rw.row,F6.Fld.cells] at sx1 sx2
  have hl:¬ 30 < ps.length:=by omega
  have hl':¬ (30:Int) < ps.length:=by omega
  have T6:=F1.tag 6 (by omega) (by omega) K (by omega) 0
  have tg6:tg 6=(0,false,2):=by decide
  rw [tg6] at T6
  refine con_ofO E_fn16 (by simp [AV.pureL,El.av_pure,AV.pure,pn]) (Nat.le_of_ble_eq_true rfl) rfl (g:=[]) ?_
  rw [body_16,c16]
  have ft:=F5.fault1 (oP o) (oE o) (by cases o <;> simp [oP]) K (by cases o <;> simp [oP] <;> omega) 0
  rw [El.av_eq] at cp hO hP hF hA hR hy S1 S2 L1 L2 X1 X2
  rw [El.av_eq] at cp hy
  simp [l3,F6.Fld.av,F6.Fld.cells] at S1 S2
  rcases o with _ | ⟨i,v⟩
  · obtain rfl:w=.no:=hm
    simp [LpW,bW,lp,lps,c16,firstReg,OutW,SW,bx,ec,Wn.cells,Wn.row] at L
    simp [oP,oE,ns,fF,fR] at ft hO
    rcases h1 with ⟨rfl,rfl⟩ | ⟨rfl,rfl⟩ <;> rcases h2 with ⟨n0,rfl,rfl⟩ | ⟨rfl,⟨h3,rfl,rfl,hro⟩ | ⟨h3,rfl⟩⟩ <;> first | cases h3 | skip
    all_goals (try rw [El.av_eq] at hro)
    all_goals simp [El.av_eq,-s_round,L,of,lv,ln,cp,hO,hP,hF,hA,hR,hS,pp,q1,q2,S1,S2,L1,L2,X1,X2,I1,G1,G2,G3,m1,m2,m3,m4,m5,m6,kp,k7,k8,hl,hl',T6,ft,hy,sx1,sx2,F6.Fld.cells,fitZ,flatV, *]
  · obtain ⟨hv,rfl | rfl⟩:=hm
    · simp [LpW,bW,lp,lps,c16,firstReg,OutW,SW,bx,ec,Wn.cells,Wn.row] at L
      simp [oP,oE,ns,fF,fR] at ft hO
      rcases h1 with ⟨rfl,rfl⟩ | ⟨rfl,rfl⟩ <;> rcases h2 with ⟨n0,rfl,rfl⟩ | ⟨rfl,⟨h3,rfl,rfl,hro⟩ | ⟨h3,rfl⟩⟩ <;> first | cases h3 | skip
      all_goals (try rw [El.av_eq] at hro)
      all_goals simp [El.av_eq,-s_round,L,of,lv,ln,cp,hO,hP,hF,hA,hR,hS,pp,q1,q2,S1,S2,L1,L2,X1,X2,I1,G1,G2,G3,m1,m2,m3,m4,m5,m6,kp,k7,k8,hl,hl',T6,ft,hy,sx1,sx2,F6.Fld.cells,fitZ,flatV, *]
    · simp [LpW,bW,lp,lps,c16,firstReg,OutW,SW,bx,ec,Wn.cells,Wn.row] at L
      simp [oP,oE,ns,fF,fR] at ft hO
      rcases h1 with ⟨rfl,rfl⟩ | ⟨rfl,rfl⟩ <;> rcases h2 with ⟨n0,rfl,rfl⟩ | ⟨rfl,⟨h3,rfl,rfl,hro⟩ | ⟨h3,rfl⟩⟩ <;> first | cases h3 | skip
      all_goals (try rw [El.av_eq] at hro)
      all_goals simp [El.av_eq,-s_round,L,of,lv,ln,cp,hO,hP,hF,hA,hR,hS,pp,q1,q2,S1,S2,L1,L2,X1,X2,I1,G1,G2,G3,m1,m2,m3,m4,m5,m6,kp,k7,k8,hl,hl',T6,ft,hy,sx1,sx2,F6.Fld.cells,fitZ,flatV, *]
end F66
end
end
section
open Ab Go TabE Sp E34 F1 F4 F5 F20 F21 F23 F36 F43 F62 F64
namespace F67
theorem law (e:El) (he:e.ok) (hn:E31.Nn e) (f:Bool) (ps:List Int) (c:Option Nat) (z0 z1:Int):∃ N,Con E N 16 [e.av,.sl f (ns ps) c,.agg [.int .i64 z0,.int .i64 z1]] (.bool true):=by
  obtain ⟨Nf,few⟩:=F60.few_con e he
  by_cases hq:(FW.few 200 60 e.core 60 0).1=0 ∨ 30 < ps.length
  · exact ⟨Nf + 300 + 1,F66.lives e f ps c z0 z1 (Nf + 300) (by omega) _ _ hq (few (Nf + 300) (by omega) 0 60 (by omega) (by omega) (by omega) (by omega))⟩
  have hq1:(FW.few 200 60 e.core 60 0).1 ≠ 0:=fun h => hq (.inl h)
  have lp':ps.length ≤ 30:=by
    have:¬ 30 < ps.length:=fun h => hq (.inr h)
    omega
  obtain ⟨k0,k1,k2,k3⟩:=FW.few_ok _ _ _ _ _ hq1
  have hc:cnt e.core ≤ 60:=by omega
  have fe:=FW.few_fe 200 60 e 60 0 hq1
  have fs:=fe
  obtain ⟨_,b1,s1,sub⟩:=fs
  have subs:∀ x ∈ e.s,FW.Fe 200 60 x ∧ cnt x.core ≤ 60:=fun x hx => ⟨sub x hx,by
    have:=cnt_eq e
    have:=E36.cnts_mem hx
    omega⟩
  have gs:∀ x ∈ e.s,ce x=0 → Gd x:=fun x hx h => F65.gd_of x (he.sub x hx) (subs x hx).1 (subs x hx).2 h
  obtain ⟨N1,C1⟩:=F61.copied e (F65.fe_mono (by omega) (by omega) e fe)
  obtain ⟨N2,C2⟩:=unif (P:=fun (x:El) (n:Nat) => Con E n 32 [x.av] (.int .i64 (ce x))) (fun x n m h hm => h.mono hm) e.s (fun x hx => E10.check x (he.sub x hx))
  obtain ⟨N3,C3⟩:=unif (P:=fun (x:El) (n:Nat) => ce x=0 → Con E n 84 [x.av] (.sl false (bs (enc x.core)) none)) (fun x n m h hm q => (h q).mono hm) e.s (fun x hx => by
    by_cases q:ce x=0
    · obtain ⟨n,h⟩:=F19.renc x (gs x hx q).ok (gs x hx q).vld (gs x hx q).len
      exact ⟨n,fun _ => h⟩
    · exact ⟨0,fun h => absurd h q⟩)
  obtain ⟨N4,C4⟩:=unif (P:=fun (x:El) (n:Nat) => ce x=0 → Con E n 21 [x.av] (.tup [.sl false (bs (enc x.core)) (some (enc x.core).length),.int .i64 0])) (fun x n m h hm q => (h q).mono hm) e.s (fun x hx => by
    by_cases q:ce x=0
    · obtain ⟨n,h⟩:=F36.put x (gs x hx q)
      exact ⟨n,fun _ => h⟩
    · exact ⟨0,fun h => absurd h q⟩)
  have eB:∀ x ∈ e.s,ce x=0 → isB (enc x.core):=fun x hx q => E18.enc_B x (gs x hx q).ok (gs x hx q).vld (by have:=(gs x hx q).len; omega)
  obtain ⟨N5,C5⟩:=F65.at_con e (F65.fe_wd e fe) hn (F65.fe_sh e fe) f ps c (by omega)
  obtain ⟨N6,C6⟩:=F31.rat e f ps c (by omega)
  obtain ⟨N7,C7⟩:=F1.same e (F61.cpy e) he (F61.cpy_core e).symm
  obtain ⟨K0,hK⟩:∃ K0,N1 + N2 + N3 + N4 + N5 + N6 + N7 + Nf + 700=K0:=⟨_,rfl⟩
  have A:∀ M,K0 ≤ M → ChkG M e:=fun M hM x hx h => C2 x hx M (by omega) 0 h
  have EG:∀ M,K0 ≤ M → EncG M e:=fun M hM x hx q => ⟨eB x hx q,none,fun h => C3 x hx q M (by omega) 0 h⟩
  have CM:∀ M,K0 ≤ M → CmpG M e:=fun M hM y hy x hx qy qx h => E14.compare y x _ _ _ _ _ _ (eB y hy qy) (eB x hx qx) N4 _ _ (C4 y hy qy) (C4 x hx qx) M (by omega) 0 h
  obtain ⟨o,ho⟩:∃ o,odg none e.s 0=o:=⟨_,rfl⟩
  have fin:∀ (Nx:Nat) (xa xr:El) (ne pe oa oe ro:Int) (is:Bool) (pb:AV),pb.pure=true → Con E Nx 21 [e.av] (.tup [pb,.int .i64 pe]) → Con E Nx 63 [e.av,.sl f (ns ps) c] (.tup [.int .i64 oa,.int .i64 oe]) → Con E Nx 62 [e.av,.sl f (ns ps) c] (.tup [xa.av,.int .i64 ne]) → Con E Nx 61 [e.av,.sl f (ns ps) c] (.tup [xr.av,.bool is]) → (is=true → Con E Nx 49 [xa.av,xr.av] (.int .i64 1)) → (is=true ∧ ne=0 ∨ is=false ∧ ne=19) →
      ((pe ≠ 0 ∧ oe=pe ∧ oa=0) ∨ (pe=0 ∧ (is=true ∧ oe=0 ∧ ro=oa ∧ Con E Nx 64 [e.av,.sl f (ns ps) c] (.int .i64 ro) ∨ is=false ∧ oe=19))) → ∃ N,Con E N 16 [e.av,.sl f (ns ps) c,.agg [.int .i64 z0,.int .i64 z1]] (.bool true):=by
    intro Nx xa xr ne pe oa oe ro is pb pp HP HF HA HR HS h1 h2
    obtain ⟨K,hK'⟩:∃ K,K0 + Nx + e.s.length + 60=K:=⟨_,rfl⟩
    obtain ⟨i0,w,L,hm⟩:=F64.loop0 K (by omega) f ps c z0 z1 e (F61.cpy e) (by omega) (A (K + 1) (by omega)) (EG K (by omega)) (by omega)
    rw [ho] at hm
    have hO:=F62.ordered K (by omega) e (by omega) (A K (by omega)) (CM K (by omega)) (by omega)
    rw [ho] at hO
    have S1:=F8.sequence false (some 3) F66.l3 e (e.c,e.k,e.n) (by omega) (by decide) (K + 1) (by simp [F66.l3]; omega) 0
    have S2:=F10.rsequence false (some 3) F66.l3 e (e.c,e.k,e.n) (by omega) (by decide) (K + 1) (by simp [F66.l3]; omega) 0
    have L1:=F5.list e (e.c,e.k,e.n) z0 z1 (K + 1) (by omega) 0
    have L2:=F5.rlist e (e.c,e.k,e.n) z0 z1 (K + 1) (by omega) 0
    have X1:=F5.explicit e e.n (K + 1) (by omega) 0
    have X2:=F5.rexplicit e e.n (K + 1) (by omega) 0
    have lsl:(F5.lsS e (e.c,e.k,e.n) z0 z1).1.length ≤ 1:=by unfold F5.lsS; (repeat' split) <;> simp
    have exl:(F5.exS e e.n).1.length ≤ 1:=by unfold F5.exS; (repeat' split) <;> simp
    have G2:=F5.fault1 (F5.lsS e (e.c,e.k,e.n) z0 z1).1 (F5.lsS e (e.c,e.k,e.n) z0 z1).2 (by omega) (K + 1) (by omega) 0
    have G3:=F5.fault1 (F5.exS e e.n).1 (F5.exS e e.n).2 (by omega) (K + 1) (by omega) 0
    have fwr:=few (K + 1) (by omega) 0 60 (by omega) (by omega) (by omega) (by omega)
    rw [k3] at fwr
    cases hq:F8.sq e (e.c,e.k,e.n) F66.l3 with
    | inl q =>
      rw [hq] at S1 S2
      have ql:=(F11.sq_ok hq).1
      have I1:=F1.ints false q.isEmpty (some q.length) (if q.isEmpty then some 0 else none) q (by rw [ql]; decide) (K + 1) (by rw [ql]; simp [F66.l3]; omega) 0
      have G1:=F5.fault1 [] 0 (by simp) (K + 1) (by simp; omega) 0
      exact ⟨K + 1 + 1,F66.main e (F61.cpy e) f ps c z0 z1 (K + 1) (by omega) lp' (by omega) _ fwr (fun h => C1 (K + 1) (by omega) 0 h) i0 w L o hm hO xa xr ne pe oa oe ro is pb pp
        (fun h => HP (K + 1) (by omega) 0 h) (fun h => HF (K + 1) (by omega) 0 h) (fun h => by have:=HA (K + 1) (by omega) 0 h; rwa [El.av_eq xa] at this) (fun h => by have:=HR (K + 1) (by omega) 0 h; rwa [El.av_eq xr] at this) (fun q h => by have:=HS q (K + 1) (by omega) 0 h; rwa [El.av_eq xa,El.av_eq xr] at this) h1
        (h2.imp id fun p => ⟨p.1,p.2.imp (fun r => ⟨r.1,r.2.1,r.2.2.1,fun h => r.2.2.2 (K + 1) (by omega) 0 h⟩) id⟩) (fun h => C7 (K + 1) (by omega) 0 h)
        _ _ (by simp [AV.pure]) (by simp [AV.pure]) _ _ _ _ _ _ _ _ _ _ _ _ _ _ _ _ _ _ _ _ _ _ _ _ S1 S2 L1 L2 X1 X2 I1 G1 G2 G3⟩
    | inr p =>
      obtain ⟨er,p⟩:=p
      rw [hq] at S1 S2
      have pl:=(F11.sq_bad hq).2
      have I1:=F1.ints true true (some 0) (some 0) [] (by simp) (K + 1) (by simp; omega) 0
      have G1:=F5.fault1 p er (by omega) (K + 1) (by omega) 0
      exact ⟨K + 1 + 1,F66.main e (F61.cpy e) f ps c z0 z1 (K + 1) (by omega) lp' (by omega) _ fwr (fun h => C1 (K + 1) (by omega) 0 h) i0 w L o hm hO xa xr ne pe oa oe ro is pb pp
        (fun h => HP (K + 1) (by omega) 0 h) (fun h => HF (K + 1) (by omega) 0 h) (fun h => by have:=HA (K + 1) (by omega) 0 h; rwa [El.av_eq xa] at this) (fun h => by have:=HR (K + 1) (by omega) 0 h; rwa [El.av_eq xr] at this) (fun q h => by have:=HS q (K + 1) (by omega) 0 h; rwa [El.av_eq xa,El.av_eq xr] at this) h1
        (h2.imp id fun p => ⟨p.1,p.2.imp (fun r => ⟨r.1,r.2.1,r.2.2.1,fun h => r.2.2.2 (K + 1) (by omega) 0 h⟩) id⟩) (fun h => C7 (K + 1) (by omega) 0 h)
        _ _ (by simp [AV.pure]) (by simp [AV.pure]) _ _ _ _ _ _ _ _ _ _ _ _ _ _ _ _ _ _ _ _ _ _ _ _ S1 S2 L1 L2 X1 X2 I1 G1 G2 G3⟩
  by_cases hv:(chk e.core 1 0 0).1=0
  · have g:=F65.gd_of e he fe hc hv
    obtain ⟨N8,C8⟩:=F36.put e g
    obtain ⟨N9,C9⟩:=F37.offset e g f ps c lp'
    cases hw:E34.walk e ps with
    | none =>
      rw [hw] at C5 C6 C9
      exact fin (N5 + N6 + N8 + N9) E18.z E18.z 19 0 0 19 0 false _ (by simp [AV.pure]) (C8.mono (by omega)) (C9.mono (by omega)) (C5.mono (by omega)) (C6.mono (by omega)) (fun h => by cases h) (.inr ⟨rfl,rfl⟩) (.inr ⟨rfl,.inr ⟨rfl,rfl⟩⟩)
    | some x =>
      rw [hw] at C5 C6 C9
      have gx:Gd x:=walk_P (P:=Gd) (fun e h y hy => h.sub hy) ps e x g hw
      obtain ⟨N10,C10⟩:=F40.offset e x g f ps c lp' hw
      obtain ⟨N11,C11⟩:=F1.same (clo x) x (cl_ok x gx.ok) (cl_core x)
      exact fin (N5 + N6 + N8 + N9 + N10 + N11) (clo x) x 0 0 (ofs e ps) 0 (ofs e ps) true _ (by simp [AV.pure]) (C8.mono (by omega)) (C9.mono (by omega)) (C5.mono (by omega)) (C6.mono (by omega)) (fun _ => C11.mono (by omega)) (.inl ⟨rfl,rfl⟩) (.inr ⟨rfl,.inl ⟨rfl,rfl,rfl,C10.mono (by omega)⟩⟩)
  · obtain ⟨N8,C8⟩:=E10.put_bad e he hv
    have C9:=F65.offset_bad e f ps c _ hv N8 C8
    cases hw:E34.walk e ps with
    | none =>
      rw [hw] at C5 C6
      exact fin (N5 + N6 + N8 + 20) E18.z E18.z 19 _ 0 _ 0 false _ (by simp [AV.pure]) (C8.mono (by omega)) (C9.mono (by omega)) (C5.mono (by omega)) (C6.mono (by omega)) (fun h => by cases h) (.inr ⟨rfl,rfl⟩) (.inl ⟨hv,rfl,rfl⟩)
    | some x =>
      rw [hw] at C5 C6
      have ox:x.ok:=walk_P (P:=El.ok) (fun e h y hy => h.sub y hy) ps e x he hw
      obtain ⟨N11,C11⟩:=F1.same (clo x) x (cl_ok x ox) (cl_core x)
      exact fin (N5 + N6 + N8 + 20 + N11) (clo x) x 0 _ 0 _ 0 true _ (by simp [AV.pure]) (C8.mono (by omega)) (C9.mono (by omega)) (C5.mono (by omega)) (C6.mono (by omega)) (fun _ => C11.mono (by omega)) (.inl ⟨rfl,rfl⟩) (.inl ⟨hv,rfl,rfl⟩)
end F67
end
