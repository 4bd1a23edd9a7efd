/- Own work, no conditions. -/
import Derived.Test.YtbiildmljbcmeaaDoorF23
set_option maxRecDepth 20000
set_option linter.unusedSimpArgs false
set_option linter.unusedVariables false
set_option maxHeartbeats 16000000
section
open Ab Go TabE Sp E34 F1 F4 F5
namespace F31
abbrev z5:List AV:=[.int .u8 0,.bool false,.int .u32 0,.sl true [] (some 0),.sl true [] (some 0)]
abbrev BadA:AExit × St:=(.ret,⟨[(4,.ptr (1,4,0) 0),(5,.bool false)],[((1,4,0),bx z5)]⟩)
def nx (e:El) (p:Int):El ⊕ (AExit × St):=if p < 0 then .inr BadA else match e.s[p.toNat]? with
  | some x => .inl x
  | none => .inr BadA
end F31
end
section
open Ab Go TabE
attribute [local simp ↓] s_seq s_reg s_regd s_cond s_block s_cons s_consG s_regD
attribute [local simp] s_nil s_loop s_round s_lpn s_lpe s_lpr firstReg s_gt s_gf s_wb s_wu s_val s_valN s_skip s_calls s_callP s_cax lookR flatR pureKs s_ret s_rgx s_sqn s_sqr s_sqe s_cdb s_bkn s_bkr s_bke s_exit s_ret' s_skip' s_finr s_finn s_fin1 s_fix s_clean s_gc0 o_tmp o_int o_bool o_nil o_str o_fn o_nil' l_hit l_miss l_nil ol_nil ol_cons ol_some x_move x_assign x_pick pk_t pk_f x_bin bn_s x_un x_extract x_callF cl_no x_callB x_callBF frzV x_conv cvx convA frame0 binA intOp resL resA results1 sealLW AV.pure AV.pureL keepT x_alloc x_box bxx x_build bdx x_buildSlice bsx x_buildSliceF bsf x_load ldx x_store stx x_slice slx x_fieldAddr x_field x_index ixx x_indexAddr iax x_makeSlice msx x_makeSliceF msf x_nilCheck newK genOf setK lookK fillA writeL writeC readC conts TyI.mk1 sliceA boundsA boundsB fitsA numA indexAddrA fieldAddrA partA fieldA indexA appendA copyA builtinA AV.cells chunk gcH reach keysT keepK inKs AV.keys AV.keysL Ty.isAgg eq1 eqL convA.go ltI w_u8 w_u32 w_u64 w_i64 w_fdiv w_tdiv w_tmod IntKind.bits unA sc_int sc_bool sc_str sc_sl sc_ref sc_ptr sc_pel sc_nilp sc_fn sc_nilf sc_if sc_nili sc_agg sc_tup sc_mem bs_pure bs_kl bs_length bs_cells bs_all sl_row sealRow sealY sl_int sl_bool sl_str sl_sl sl_nilp sl_nilf sl_nili sl_pel sl_agg sl_tup sl_fn sl_if nat_1 bs_cons bs_nil i_beq i_bne x_mkF x_mkI x_tassert x_panic s_pan s_sqp s_bkp s_finp s_fixp s_lpp s_rgp s_retp s_site s_stxN s_stxO x_callT clx El.avs_len s_dyn0 s_rgy barOf dynChk footL dynOK disjK keysOp opVals Op.operands
section
open Ab Go TabE Sp E34 F1 F4 F5 F31
namespace F43
mutual
def clo:El → El
  | .mk c k n fb b _ _ s _ => .mk c k n fb b (some b.length) false (cls s) (some s.length)
def cls:List El → List El
  | [] => []
  | x :: r => clo x :: cls r
end
theorem cls_map:∀ l,cls l=l.map clo
  | [] => rfl
  | e :: r => by rw [cls,cls_map r]; rfl
theorem cl_eq (e:El):clo e=.mk e.c e.k e.n e.fb e.b (some e.b.length) false (e.s.map clo) (some e.s.length):=by cases e; rw [clo,cls_map]; rfl
theorem cl_core:∀ e:El,(clo e).core=e.core:=by
  refine El.ind fun e ih => ?_
  rw [cl_eq,El.core_eq e,El.core,El.cores_map,El.cores_map,List.map_map]
  congr 1
  exact List.map_congr_left fun x hx => ih x hx
theorem cl_ok:∀ e:El,e.ok → (clo e).ok:=by
  refine El.ind fun e ih h => ?_
  rw [cl_eq,El.ok_eq]
  refine ⟨h.cb,h.nb,h.bb,h.bl,by simp only [El.s,List.length_map]; exact h.sl,fun x hx => ?_⟩
  obtain ⟨y,hy,rfl⟩:=List.mem_map.1 hx
  exact ih y hy (h.sub y hy)
def row (e:El) (i:Nat):List El:=(e.s.map clo).take i ++ List.replicate (e.s.length - i) E32.z0
theorem row_len (e:El) (i:Nat) (h:i ≤ e.s.length):(row e i).length=e.s.length:=by unfold row; simp; omega
theorem row_next (e x:El) (i:Nat) (hx:e.s[i]? = some x):(row e i).set i (clo x)=row e (i + 1):=by
  have hi:i < e.s.length:=(List.getElem?_eq_some_iff.1 hx).1
  apply List.ext_getElem?
  intro j
  have hm:(e.s.map clo)[i]? = some (clo x):=by rw [List.getElem?_map,hx]; rfl
  rw [List.getElem?_set,row_len e i (by omega)]
  unfold row
  by_cases hj:i=j
  · subst hj
    rw [if_pos rfl,if_pos hi,List.getElem?_append_left (by simp; omega),List.getElem?_take_of_lt (by omega),hm]
  · rw [if_neg hj]
    by_cases hl:j < i
    · rw [List.getElem?_append_left (by simp; omega),List.getElem?_append_left (by simp; omega),List.getElem?_take_of_lt hl,List.getElem?_take_of_lt (by omega)]
    · rw [List.getElem?_append_right (by simp; omega),List.getElem?_append_right (by simp; omega)]
      simp only [List.length_take,List.length_map,List.getElem?_replicate]
      have a:min i e.s.length=i:=by omega
      have b:min (i + 1) e.s.length=i + 1:=by omega
      rw [a,b]
      by_cases hq:j < e.s.length
      · rw [if_pos (by omega),if_pos (by omega)]
      · rw [if_neg (by omega),if_neg (by omega)]
theorem row_at (i n:Nat) (hi:i < n) (hn:n ≤ 1000000):∀ h o,lookK h (1,14,0)=some o → o.live=true → o.esz=5 → n * 5 ≤ o.cells.length → indexAddrA E 27 (.ref (1,14,0) 0 n (some n)) (.int .i64 (i:Int)) h=some (.ptr (1,14,0) (i * 5)):=by
  intro h o h1 h2 h3 h4
  have a:i * 5 + 5 ≤ n * 5:=by omega
  simp [indexAddrA,h1,h2,h3,hi]
def b86:Code:=lp c148 0
abbrev SN (e:El) (r:List El) (i:Nat):St:=⟨[(1,.ptr (1,1,0) 0),(2,.ptr (1,2,0) 0),(3,.ref (1,14,0) 0 e.s.length (some e.s.length)),(16,.sl e.fs (El.avs e.s) e.cs),(17,.int .i64 (e.s.length:Int)),(18,.int .i64 (i:Int))],[((1,1,0),bx [.int .u8 e.c,.bool e.k,.int .u32 e.n,.sl e.fb [] (some 0),.sl e.fs (El.avs e.s) e.cs]),((1,2,0),bx z5),((1,14,0),⟨El.fl r,true,true,true,5,true⟩)]⟩
theorem goN (q k1:Nat) (e x:El) (r:List El) (i:Nat) (hx:e.s[i]? = some x) (hr:r.length=e.s.length) (le:e.s.length ≤ 1000000) (B:∀ h,aCall E q 0 148 [x.av] h=some (.ret (clo x).av,h)) :
    rndO fn148 b86 q k1 (SN e r i)=some (.normal,SN e (r.set i (clo x)) (i + 1)):=by
  have hi:i < e.s.length:=(List.getElem?_eq_some_iff.1 hx).1
  have ix:=fun hp => El.at_ e.fs e.cs e.s i x hx hp
  have w:=w64' ((i:Int) + 1) (by omega) (by omega)
  have ir:=row_at i e.s.length hi (by omega)
  rw [El.av_eq,El.av_eq] at B
  have f1:=El.fl_len r
  have f2:(El.fl r).take (i * 5)=El.fl (r.take i):=El.fl_take i r
  have f3:(El.fl r).drop (i * 5 + 5)=El.fl (r.drop (i + 1)):=by rw [← El.fl_drop]; congr 1; omega
  have g1:i * 5 + 5 ≤ e.s.length * 5:=by omega
  have f4:=El.fl_keys r
  have f5:=El.fl_keys (r.take i)
  have f6:=El.fl_keys (r.drop (i + 1))
  have fs:=E32.fl_set r i (clo x) (by omega)
  simp [b86,lp,lps,c148,-indexAddrA,ix,ir,fs,w,hi,B,f1,f2,f3,f4,f5,f6,g1,hr,El.fl_keysr]
theorem lastN (q k1:Nat) (e:El) (r:List El):rndO fn148 b86 q k1 (SN e r e.s.length)=some (.exit 0,⟨(SN e r e.s.length).t ++ [(19,.bool false)],(SN e r e.s.length).h⟩):=by
  have f4:=El.fl_keys r
  simp [b86,lp,lps,c148,f4]
abbrev SR (e:El) (r:List El) (i:Nat) (ex:Bool):St:=⟨[(1,.ptr (1,1,0) 0),(2,.ptr (1,2,0) 0),(3,.ref (1,14,0) 0 e.s.length (some e.s.length)),(16,.sl e.fs (El.avs e.s) e.cs),(17,.int .i64 (e.s.length:Int)),(18,.int .i64 (i:Int))],[((1,1,0),bx [.int .u8 e.c,.bool e.k,.int .u32 e.n,.ref (1,8,0) 0 e.b.length (some e.b.length),.sl e.fs (El.avs e.s) e.cs]),((1,2,0),bx z5),((1,8,0),⟨bs e.b,true,true,ex,1,false⟩),((1,14,0),⟨El.fl r,true,true,true,5,true⟩)]⟩
theorem goR (q k1:Nat) (e x:El) (r:List El) (i:Nat) (ex:Bool) (hx:e.s[i]? = some x) (hr:r.length=e.s.length) (le:e.s.length ≤ 1000000) (B:∀ h,aCall E q 0 148 [x.av] h=some (.ret (clo x).av,h)) :
    rndO fn148 b86 q k1 (SR e r i ex)=some (.normal,SR e (r.set i (clo x)) (i + 1) ex):=by
  have hi:i < e.s.length:=(List.getElem?_eq_some_iff.1 hx).1
  have ix:=fun hp => El.at_ e.fs e.cs e.s i x hx hp
  have w:=w64' ((i:Int) + 1) (by omega) (by omega)
  have ir:=row_at i e.s.length hi (by omega)
  rw [El.av_eq,El.av_eq] at B
  have f1:=El.fl_len r
  have f2:(El.fl r).take (i * 5)=El.fl (r.take i):=El.fl_take i r
  have f3:(El.fl r).drop (i * 5 + 5)=El.fl (r.drop (i + 1)):=by rw [← El.fl_drop]; congr 1; omega
  have g1:i * 5 + 5 ≤ e.s.length * 5:=by omega
  have f4:=El.fl_keys r
  have f5:=El.fl_keys (r.take i)
  have f6:=El.fl_keys (r.drop (i + 1))
  have fs:=E32.fl_set r i (clo x) (by omega)
  simp [b86,lp,lps,c148,-indexAddrA,ix,ir,fs,w,hi,B,f1,f2,f3,f4,f5,f6,g1,hr,El.fl_keysr]
theorem lastR (q k1:Nat) (e:El) (r:List El) (ex:Bool):rndO fn148 b86 q k1 (SR e r e.s.length ex)=some (.exit 0,⟨(SR e r e.s.length ex).t ++ [(19,.bool false)],(SR e r e.s.length ex).h⟩):=by
  have f4:=El.fl_keys r
  simp [b86,lp,lps,c148,f4]
end F43
end
section
open Ab Go TabE Sp E34 F1 F4 F5 F31 F43
namespace F44
abbrev br (b:List Int) (ex:Bool):AObj:=⟨bs b,true,true,ex,1,false⟩
def ret1 (k:Key):Option (ARes × Heap) → Option (ARes × Option AObj)
  | some (r,h) => some (r,lookK h k)
  | none => none
theorem ret1_eq {k:Key} {x:Option (ARes × Heap)} {r a} (h:ret1 k x=some (r,a)):∃ hf,x=some (r,hf) ∧ lookK hf k=a:=by
  unfold ret1 at h
  split at h
  · cases h; exact ⟨_,rfl,rfl⟩
  · cases h
theorem clone_nil (q:Nat) (hq:13 ≤ q) (m:List Bool) (slot:Nat) (c:Option Nat) (h:Heap):opened m false (aRun E q) slot 165 [.sl true [] c] h=some (.ret (.sl true [] (some 0)),h):=by
  have key:ret1 (1,5,0) (aRun E (12 + 1) 165 [.sl true [] c] [])=some (.ret (.sl true [] (some 0)),none):=by
    rw [aRun_fn rfl E_fn165 rfl (Nat.le_of_ble_eq_true rfl),body_165,c165]
    simp [ret1]
  obtain ⟨hf,h1,h2⟩:=ret1_eq key
  rw [FO.op_fresh (m:=m) (slot:=slot) (h:=h) [] (by rfl) (aRun_le E (12 + 1) q hq _ _ _ _ h1) (by rfl) (by rfl) (by simp) (by rfl)]
  rfl
theorem clone_emp (q:Nat) (hq:13 ≤ q) (m:List Bool) (slot:Nat) (c:Option Nat) (h:Heap):opened m false (aRun E q) slot 165 [.sl false [] c] h=some (.ret (.ref (1,slot,genOf h 1 slot) 0 0 (some 0)),setK h (1,slot,genOf h 1 slot) (br [] true)):=by
  have key:ret1 (1,5,0) (aRun E (12 + 1) 165 [.sl false [] c] [])=some (.ret (.ref (1,5,0) 0 0 (some 0)),some (br [] true)):=by
    rw [aRun_fn rfl E_fn165 rfl (Nat.le_of_ble_eq_true rfl),body_165,c165]
    simp [ret1]
  obtain ⟨hf,h1,h2⟩:=ret1_eq key
  rw [FO.op_fresh (m:=m) (slot:=slot) (h:=h) [(1,5,0)] (by rfl) (aRun_le E (12 + 1) q hq _ _ _ _ h1) (by simp [reach,h2,AV.keysL,AV.keys,dd,bs_nil]) (by simp [closedH,h2,AV.keysL,AV.keys,bs_nil]) (by simp) (by simp [AV.keysL,AV.keys,inKs])]
  simp [AV.rn,AV.rnL,outK,posK,putAll,h2,bs_nil,br]
theorem clone_row (b:List Int) (lb:b.length ≤ 1000000) (hb:b ≠ []) (q:Nat) (hq:13 ≤ q) (m:List Bool) (slot:Nat) (c:Option Nat) (h:Heap):opened m false (aRun E q) slot 165 [.sl false (bs b) c] h=some (.ret (.ref (1,slot,genOf h 1 slot) 0 b.length none),setK h (1,slot,genOf h 1 slot) (br b false)):=by
  have kb:=bs_kl b
  have lbs:=bs_len b
  have cp:b.length ≤ 70368744177664:=by omega
  have key:ret1 (1,7,0) (aRun E (12 + 1) 165 [.sl false (bs b) c] [])=some (.ret (.ref (1,7,0) 0 b.length none),some (br b false)):=by
    rw [aRun_fn rfl E_fn165 rfl (Nat.le_of_ble_eq_true rfl),body_165,c165]
    simp [ret1,hb,cp]
  obtain ⟨hf,h1,h2⟩:=ret1_eq key
  have rb:∀ φ,AV.rnL φ (bs b)=bs b:=fun φ => rnL_pure _ (bs_pure b)
  rw [FO.op_fresh (m:=m) (slot:=slot) (h:=h) [(1,7,0)] (by simp [AV.pureL,AV.pure]) (aRun_le E (12 + 1) q hq _ _ _ _ h1) (by simp [reach,h2,AV.keysL,AV.keys,dd,kb]) (by simp [closedH,h2,AV.keysL,AV.keys,kb]) (by simp) (by simp [AV.keysL,AV.keys,inKs])]
  simp [AV.rn,AV.rnL,outK,posK,putAll,h2,rb]
theorem clip_nil (q:Nat) (hq:13 ≤ q) (m:List Bool) (slot:Nat) (h:Heap):opened m false (aRun E q) slot 131 [.sl true [] (some 0)] h=some (.ret (.sl true [] (some 0)),h):=by
  have key:ret1 (1,5,0) (aRun E (12 + 1) 131 [.sl true [] (some 0)] [])=some (.ret (.sl true [] (some 0)),none):=by
    rw [aRun_fn rfl E_fn131 rfl (Nat.le_of_ble_eq_true rfl),body_131,c131]
    simp [ret1]
  obtain ⟨hf,h1,h2⟩:=ret1_eq key
  rw [FO.op_fresh (m:=m) (slot:=slot) (h:=h) [] (by rfl) (aRun_le E (12 + 1) q hq _ _ _ _ h1) (by rfl) (by rfl) (by simp) (by rfl)]
  rfl
theorem clip_emp (q:Nat) (hq:13 ≤ q) (slot:Nat) (h:Heap) (key:Key) (hk:lookK h key=some (br [] true)):opened [true] false (aRun E q) slot 131 [.ref key 0 0 (some 0)] h=some (.ret (.sl false [] (some 0)),h):=by
  have kb:=bs_kl []
  have rb:∀ φ,AV.rnL φ (bs [])=bs []:=fun φ => rnL_pure _ (bs_pure [])
  have key0:ret1 (0,0,0) (aRun E (12 + 1) 131 [.ref (0,0,0) 0 0 (some 0)] [((0,0,0),br [] true)])=some (.ret (.sl false [] (some 0)),some (br [] true)):=by
    rw [aRun_fn rfl E_fn131 rfl (Nat.le_of_ble_eq_true rfl),body_131,c131]
    simp [ret1,kb,bs_nil,AV.keysL,AV.rnL]
  obtain ⟨hf,h1,h2⟩:=ret1_eq key0
  have hr:=aRun_le E (12 + 1) q hq _ _ _ _ h1
  unfold opened
  have e1:sealM (sealA 20) [true] h [.ref key 0 0 (some 0)]=some ([.ref key 0 0 (some 0)],h):=rfl
  rw [e1]
  simp only
  have e0:AV.keysL [.ref key 0 0 (some 0)]=[key]:=rfl
  rw [e0]
  have e2:dd (reach h 3 [key])=[key]:=by simp [reach,hk,kb,dd,bs_nil,AV.keysL,AV.rnL]
  rw [e2]
  unfold lendA
  have e3:lendH h (inK [key]) [key]=some [((0,0,0),br [] true)]:=by simp [lendH,hk,inK,posK,rb,bs_nil,AV.keysL,AV.rnL]
  rw [e3]
  have e4:closedH h [key] [key]=true:=by simp [closedH,hk,kb,bs_nil,AV.keysL,AV.rnL]
  simp only [e0]
  rw [if_pos ⟨e4,by simp [inKs]⟩]
  have e5:AV.rnL (inK [key]) [.ref key 0 0 (some 0)]=[.ref (0,0,0) 0 0 (some 0)]:=by simp [AV.rnL,AV.rn,inK,posK]
  rw [e5,hr]
  have e9:lentKs 1=[(0,0,0)]:=rfl
  have e8:AV.keysL [AV.sl false [] (some 0)]=[]:=rfl
  have e7:dd (reach hf 3 ([(0,0,0)] ++ []))=[(0,0,0)]:=by simp [reach,h2,kb,dd,bs_nil,AV.keysL,AV.rnL]
  have e10:closedH hf [(0,0,0)] [(0,0,0)]=true:=by simp [closedH,h2,kb,bs_nil,AV.keysL,AV.rnL]
  simp only [backR,Bool.false_eq_true,if_false,backV,Ab.back,List.length_singleton,e8,e9,e7,backA]
  rw [if_pos ⟨e10,by rfl,by rfl,by rfl⟩]
  have sk:=FO.setK_same h key _ hk
  simp only [br,bs_nil] at h2 sk
  simp [AV.rnL,AV.rn,outK,posK,putAll,h2,rb,sk,bs_nil,AV.keysL,AV.rnL]
theorem clip_row (q:Nat) (hq:13 ≤ q) (slot:Nat) (h:Heap) (key:Key) (b:List Int) (ex:Bool) (hb:b ≠ []) (hk:lookK h key=some (br b ex)):opened [true] false (aRun E q) slot 131 [.ref key 0 b.length none] h=some (.ret (.ref key 0 b.length (some b.length)),h):=by
  have kb:=bs_kl b
  have lbs:=bs_len b
  have rb:∀ φ,AV.rnL φ (bs b)=bs b:=fun φ => rnL_pure _ (bs_pure b)
  have key0:ret1 (0,0,0) (aRun E (12 + 1) 131 [.ref (0,0,0) 0 b.length none] [((0,0,0),br b ex)])=some (.ret (.ref (0,0,0) 0 b.length (some b.length)),some (br b ex)):=by
    rw [aRun_fn rfl E_fn131 rfl (Nat.le_of_ble_eq_true rfl),body_131,c131]
    simp [ret1,kb,hb]
  obtain ⟨hf,h1,h2⟩:=ret1_eq key0
  have hr:=aRun_le E (12 + 1) q hq _ _ _ _ h1
  unfold opened
  have e1:sealM (sealA 20) [true] h [.ref key 0 b.length none]=some ([.ref key 0 b.length none],h):=rfl
  rw [e1]
  simp only
  have e0:AV.keysL [.ref key 0 b.length none]=[key]:=rfl
  rw [e0]
  have e2:dd (reach h 3 [key])=[key]:=by simp [reach,hk,kb,dd]
  rw [e2]
  unfold lendA
  have e3:lendH h (inK [key]) [key]=some [((0,0,0),br b ex)]:=by simp [lendH,hk,inK,posK,rb]
  rw [e3]
  have e4:closedH h [key] [key]=true:=by simp [closedH,hk,kb]
  simp only [e0]
  rw [if_pos ⟨e4,by simp [inKs]⟩]
  have e5:AV.rnL (inK [key]) [.ref key 0 b.length none]=[.ref (0,0,0) 0 b.length none]:=by simp [AV.rnL,AV.rn,inK,posK]
  rw [e5,hr]
  have e9:lentKs 1=[(0,0,0)]:=rfl
  have e8:AV.keysL [AV.ref (0,0,0) 0 b.length (some b.length)]=[(0,0,0)]:=rfl
  have e7:dd (reach hf 3 ([(0,0,0)] ++ [(0,0,0)]))=[(0,0,0)]:=by simp [reach,h2,kb,dd]
  have e10:closedH hf [(0,0,0)] [(0,0,0)]=true:=by simp [closedH,h2,kb]
  simp only [backR,Bool.false_eq_true,if_false,backV,Ab.back,List.length_singleton,e8,e9,e7,backA]
  rw [if_pos ⟨e10,by rfl,by rfl,by rfl⟩]
  have sk:=FO.setK_same h key _ hk
  simp [AV.rnL,AV.rn,outK,posK,putAll,h2,rb,sk]
end F44
end
end
