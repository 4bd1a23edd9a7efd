/- Own work, no conditions. -/
import Derived.Test.YtbiildmljbcmeaaF31
import Derived.Test.YtbiildmljbcmeaaB40
import Derived.Test.YtbiildmljbcmeaaE25
import Derived.Test.YtbiildmljbcmeaaF4
set_option maxRecDepth 20000
set_option linter.unusedSimpArgs false
set_option linter.unusedVariables false
set_option maxHeartbeats 16000000
section
open Ab Go TabE
attribute [local simp ↓] s_seq s_reg s_regd s_cond s_block s_cons s_consG s_regD
attribute [local simp] s_nil s_loop s_round s_lpn s_lpe s_lpr firstReg s_gt s_gf s_wb s_wu s_val s_valN s_skip s_calls s_callP s_cax lookR flatR pureKs s_ret s_rgx s_sqn s_sqr s_sqe s_cdb s_bkn s_bkr s_bke s_exit s_ret' s_skip' s_finr s_finn s_fin1 s_fix s_clean s_gc0 o_tmp o_int o_bool o_nil o_str o_fn o_nil' l_hit l_miss l_nil ol_nil ol_cons ol_some x_move x_assign x_pick pk_t pk_f x_bin bn_s x_un x_extract x_callF cl_no x_callB x_callBF frzV x_conv cvx convA frame0 binA intOp resL resA results1 sealLW AV.pure AV.pureL keepT x_alloc x_box bxx x_build bdx x_buildSlice bsx x_buildSliceF bsf x_load ldx x_store stx x_slice slx x_fieldAddr x_field x_index ixx x_indexAddr iax x_makeSlice msx x_makeSliceF msf x_nilCheck newK genOf setK lookK fillA writeL writeC readC conts TyI.mk1 sliceA boundsA boundsB fitsA numA indexAddrA fieldAddrA partA fieldA indexA appendA copyA builtinA AV.cells chunk gcH reach keysT keepK inKs AV.keys AV.keysL Ty.isAgg eq1 eqL convA.go ltI w_u8 w_u32 w_u64 w_i64 w_fdiv w_tdiv w_tmod IntKind.bits unA sc_int sc_bool sc_str sc_sl sc_ref sc_ptr sc_pel sc_nilp sc_fn sc_nilf sc_if sc_nili sc_agg sc_tup sc_mem bs_pure bs_kl bs_length bs_cells bs_all sl_row sealRow sealY sl_int sl_bool sl_str sl_sl sl_nilp sl_nilf sl_nili sl_pel sl_agg sl_tup sl_fn sl_if nat_1 bs_cons bs_nil i_beq i_bne x_mkF x_mkI x_tassert x_panic s_pan s_sqp s_bkp s_finp s_fixp s_lpp s_rgp s_retp s_site s_stxN s_stxO x_callT clx El.avs_len s_dyn0 s_rgy barOf dynChk footL dynOK disjK keysOp opVals Op.operands
section
open Ab Go TabE Sp E34 F1 F4 F5 F31
namespace F43
mutual
def clo:El → El
  | .mk c k n fb b _ _ s _ => .mk c k n fb b (some b.length) false (cls s) (some s.length)
def cls:List El → List El
  | [] => []
  | x :: r => clo x :: cls r
end
theorem cls_map:∀ l,cls l=l.map clo
  | [] => rfl
  | e :: r => by rw [cls,cls_map r]; rfl
theorem cl_eq (e:El):clo e=.mk e.c e.k e.n e.fb e.b (some e.b.length) false (e.s.map clo) (some e.s.length):=by cases e; rw [clo,cls_map]; rfl
theorem cl_core:∀ e:El,(clo e).core=e.core:=by
  refine El.ind fun e ih => ?_
  rw [cl_eq,El.core_eq e,El.core,El.cores_map,El.cores_map,List.map_map]
  congr 1
  exact List.map_congr_left fun x hx => ih x hx
theorem cl_ok:∀ e:El,e.ok → (clo e).ok:=by
  refine El.ind fun e ih h => ?_
  rw [cl_eq,El.ok_eq]
  refine ⟨h.cb,h.nb,h.bb,h.bl,by simp only [El.s,List.length_map]; exact h.sl,fun x hx => ?_⟩
  obtain ⟨y,hy,rfl⟩:=List.mem_map.1 hx
  exact ih y hy (h.sub y hy)
def row (e:El) (i:Nat):List El:=(e.s.map clo).take i ++ List.replicate (e.s.length - i) E32.z0
theorem row_len (e:El) (i:Nat) (h:i ≤ e.s.length):(row e i).length=e.s.length:=by unfold row; simp; omega
theorem row_next (e x:El) (i:Nat) (hx:e.s[i]? = some x):(row e i).set i (clo x)=row e (i + 1):=by
  have hi:i < e.s.length:=(List.getElem?_eq_some_iff.1 hx).1
  apply List.ext_getElem?
  intro j
  have hm:(e.s.map clo)[i]? = some (clo x):=by rw [List.getElem?_map,hx]; rfl
  rw [List.getElem?_set,row_len e i (by omega)]
  unfold row
  by_cases hj:i=j
  · subst hj
    rw [if_pos rfl,if_pos hi,List.getElem?_append_left (by simp; omega),List.getElem?_take_of_lt (by omega),hm]
  · rw [if_neg hj]
    by_cases hl:j < i
    · rw [List.getElem?_append_left (by simp; omega),List.getElem?_append_left (by simp; omega),List.getElem?_take_of_lt hl,List.getElem?_take_of_lt (by omega)]
    · rw [List.getElem?_append_right (by simp; omega),List.getElem?_append_right (by simp; omega)]
      simp only [List.length_take,List.length_map,List.getElem?_replicate]
      have a:min i e.s.length=i:=by omega
      have b:min (i + 1) e.s.length=i + 1:=by omega
      rw [a,b]
      by_cases hq:j < e.s.length
      · rw [if_pos (by omega),if_pos (by omega)]
      · rw [if_neg (by omega),if_neg (by omega)]
theorem row_at (i n:Nat) (hi:i < n) (hn:n ≤ 1000000):∀ h o,lookK h (1,14,0)=some o → o.live=true → o.esz=5 → n * 5 ≤ o.cells.length → indexAddrA E 28 (.ref (1,14,0) 0 n (some n)) (.int .i64 (i:Int)) h=some (.ptr (1,14,0) (i * 5)):=by
  intro h o h1 h2 h3 h4
  have a:i * 5 + 5 ≤ n * 5:=by omega
  simp [indexAddrA,h1,h2,h3,hi]
def b86:Code:=lp c86 0
abbrev SN (e:El) (r:List El) (i:Nat):St:=⟨[(1,.ptr (1,1,0) 0),(2,.ptr (1,2,0) 0),(3,.ref (1,14,0) 0 e.s.length (some e.s.length)),(16,.sl e.fs (El.avs e.s) e.cs),(17,.int .i64 (e.s.length:Int)),(18,.int .i64 (i:Int))],[((1,1,0),bx [.int .u8 e.c,.bool e.k,.int .u32 e.n,.sl e.fb [] (some 0),.sl e.fs (El.avs e.s) e.cs]),((1,2,0),bx z5),((1,14,0),⟨El.fl r,true,true,true,5,true⟩)]⟩
theorem goN (q k1:Nat) (e x:El) (r:List El) (i:Nat) (hx:e.s[i]? = some x) (hr:r.length=e.s.length) (le:e.s.length ≤ 1000000) (B:∀ h,aCall E q 0 86 [x.av] h=some (.ret (clo x).av,h)) :
    rndO fn86 b86 q k1 (SN e r i)=some (.normal,SN e (r.set i (clo x)) (i + 1)):=by
  have hi:i < e.s.length:=(List.getElem?_eq_some_iff.1 hx).1
  have ix:=fun hp => El.at_ e.fs e.cs e.s i x hx hp
  have w:=w64' ((i:Int) + 1) (by omega) (by omega)
  have ir:=row_at i e.s.length hi (by omega)
  rw [El.av_eq,El.av_eq] at B
  have f1:=El.fl_len r
  have f2:(El.fl r).take (i * 5)=El.fl (r.take i):=El.fl_take i r
  have f3:(El.fl r).drop (i * 5 + 5)=El.fl (r.drop (i + 1)):=by rw [← El.fl_drop]; congr 1; omega
  have g1:i * 5 + 5 ≤ e.s.length * 5:=by omega
  have f4:=El.fl_keys r
  have f5:=El.fl_keys (r.take i)
  have f6:=El.fl_keys (r.drop (i + 1))
  have fs:=E32.fl_set r i (clo x) (by omega)
  simp [b86,lp,lps,c86,-indexAddrA,ix,ir,fs,w,hi,B,f1,f2,f3,f4,f5,f6,g1,hr,El.fl_keysr]
theorem lastN (q k1:Nat) (e:El) (r:List El):rndO fn86 b86 q k1 (SN e r e.s.length)=some (.exit 0,⟨(SN e r e.s.length).t ++ [(19,.bool false)],(SN e r e.s.length).h⟩):=by
  have f4:=El.fl_keys r
  simp [b86,lp,lps,c86,f4]
abbrev SR (e:El) (r:List El) (i:Nat) (ex:Bool):St:=⟨[(1,.ptr (1,1,0) 0),(2,.ptr (1,2,0) 0),(3,.ref (1,14,0) 0 e.s.length (some e.s.length)),(16,.sl e.fs (El.avs e.s) e.cs),(17,.int .i64 (e.s.length:Int)),(18,.int .i64 (i:Int))],[((1,1,0),bx [.int .u8 e.c,.bool e.k,.int .u32 e.n,.ref (1,8,0) 0 e.b.length (some e.b.length),.sl e.fs (El.avs e.s) e.cs]),((1,2,0),bx z5),((1,8,0),⟨bs e.b,true,true,ex,1,false⟩),((1,14,0),⟨El.fl r,true,true,true,5,true⟩)]⟩
theorem goR (q k1:Nat) (e x:El) (r:List El) (i:Nat) (ex:Bool) (hx:e.s[i]? = some x) (hr:r.length=e.s.length) (le:e.s.length ≤ 1000000) (B:∀ h,aCall E q 0 86 [x.av] h=some (.ret (clo x).av,h)) :
    rndO fn86 b86 q k1 (SR e r i ex)=some (.normal,SR e (r.set i (clo x)) (i + 1) ex):=by
  have hi:i < e.s.length:=(List.getElem?_eq_some_iff.1 hx).1
  have ix:=fun hp => El.at_ e.fs e.cs e.s i x hx hp
  have w:=w64' ((i:Int) + 1) (by omega) (by omega)
  have ir:=row_at i e.s.length hi (by omega)
  rw [El.av_eq,El.av_eq] at B
  have f1:=El.fl_len r
  have f2:(El.fl r).take (i * 5)=El.fl (r.take i):=El.fl_take i r
  have f3:(El.fl r).drop (i * 5 + 5)=El.fl (r.drop (i + 1)):=by rw [← El.fl_drop]; congr 1; omega
  have g1:i * 5 + 5 ≤ e.s.length * 5:=by omega
  have f4:=El.fl_keys r
  have f5:=El.fl_keys (r.take i)
  have f6:=El.fl_keys (r.drop (i + 1))
  have fs:=E32.fl_set r i (clo x) (by omega)
  simp [b86,lp,lps,c86,-indexAddrA,ix,ir,fs,w,hi,B,f1,f2,f3,f4,f5,f6,g1,hr,El.fl_keysr]
theorem lastR (q k1:Nat) (e:El) (r:List El) (ex:Bool):rndO fn86 b86 q k1 (SR e r e.s.length ex)=some (.exit 0,⟨(SR e r e.s.length ex).t ++ [(19,.bool false)],(SR e r e.s.length ex).h⟩):=by
  have f4:=El.fl_keys r
  simp [b86,lp,lps,c86,f4]
end F43
end
section
open Ab Go TabE Sp E34 F1 F4 F5 F31 F43
namespace F44
abbrev br (b:List Int) (ex:Bool):AObj:=⟨bs b,true,true,ex,1,false⟩
def ret1 (k:Key):Option (ARes × Heap) → Option (ARes × Option AObj)
  | some (r,h) => some (r,lookK h k)
  | none => none
theorem ret1_eq {k:Key} {x:Option (ARes × Heap)} {r a} (h:ret1 k x=some (r,a)):∃ hf,x=some (r,hf) ∧ lookK hf k=a:=by
  unfold ret1 at h
  split at h
  · cases h; exact ⟨_,rfl,rfl⟩
  · cases h
theorem clone_nil (q:Nat) (hq:13 ≤ q) (m:List Bool) (slot:Nat) (c:Option Nat) (h:Heap):opened m false (aRun E q) slot 109 [.sl true [] c] h=some (.ret (.sl true [] (some 0)),h):=by
  have key:ret1 (1,5,0) (aRun E (12 + 1) 109 [.sl true [] c] [])=some (.ret (.sl true [] (some 0)),none):=by
    rw [aRun_fn rfl E_fn109 rfl (Nat.le_of_ble_eq_true rfl),body_109,c109]
    simp [ret1]
  obtain ⟨hf,h1,h2⟩:=ret1_eq key
  rw [FO.op_fresh (m:=m) (slot:=slot) (h:=h) [] (by rfl) (aRun_le E (12 + 1) q hq _ _ _ _ h1) (by rfl) (by rfl) (by simp) (by rfl)]
  rfl
theorem clone_emp (q:Nat) (hq:13 ≤ q) (m:List Bool) (slot:Nat) (c:Option Nat) (h:Heap):opened m false (aRun E q) slot 109 [.sl false [] c] h=some (.ret (.ref (1,slot,genOf h 1 slot) 0 0 (some 0)),setK h (1,slot,genOf h 1 slot) (br [] true)):=by
  have key:ret1 (1,5,0) (aRun E (12 + 1) 109 [.sl false [] c] [])=some (.ret (.ref (1,5,0) 0 0 (some 0)),some (br [] true)):=by
    rw [aRun_fn rfl E_fn109 rfl (Nat.le_of_ble_eq_true rfl),body_109,c109]
    simp [ret1]
  obtain ⟨hf,h1,h2⟩:=ret1_eq key
  rw [FO.op_fresh (m:=m) (slot:=slot) (h:=h) [(1,5,0)] (by rfl) (aRun_le E (12 + 1) q hq _ _ _ _ h1) (by simp [reach,h2,AV.keysL,AV.keys,dd,bs_nil]) (by simp [closedH,h2,AV.keysL,AV.keys,bs_nil]) (by simp) (by simp [AV.keysL,AV.keys,inKs])]
  simp [AV.rn,AV.rnL,outK,posK,putAll,h2,bs_nil,br]
theorem clone_row (b:List Int) (lb:b.length ≤ 1000000) (hb:b ≠ []) (q:Nat) (hq:13 ≤ q) (m:List Bool) (slot:Nat) (c:Option Nat) (h:Heap):opened m false (aRun E q) slot 109 [.sl false (bs b) c] h=some (.ret (.ref (1,slot,genOf h 1 slot) 0 b.length none),setK h (1,slot,genOf h 1 slot) (br b false)):=by
  have kb:=bs_kl b
  have lbs:=bs_len b
  have cp:b.length ≤ 70368744177664:=by omega
  have key:ret1 (1,7,0) (aRun E (12 + 1) 109 [.sl false (bs b) c] [])=some (.ret (.ref (1,7,0) 0 b.length none),some (br b false)):=by
    rw [aRun_fn rfl E_fn109 rfl (Nat.le_of_ble_eq_true rfl),body_109,c109]
    simp [ret1,hb,cp]
  obtain ⟨hf,h1,h2⟩:=ret1_eq key
  have rb:∀ φ,AV.rnL φ (bs b)=bs b:=fun φ => rnL_pure _ (bs_pure b)
  rw [FO.op_fresh (m:=m) (slot:=slot) (h:=h) [(1,7,0)] (by simp [AV.pureL,AV.pure]) (aRun_le E (12 + 1) q hq _ _ _ _ h1) (by simp [reach,h2,AV.keysL,AV.keys,dd,kb]) (by simp [closedH,h2,AV.keysL,AV.keys,kb]) (by simp) (by simp [AV.keysL,AV.keys,inKs])]
  simp [AV.rn,AV.rnL,outK,posK,putAll,h2,rb]
theorem clip_nil (q:Nat) (hq:13 ≤ q) (m:List Bool) (slot:Nat) (h:Heap):opened m false (aRun E q) slot 97 [.sl true [] (some 0)] h=some (.ret (.sl true [] (some 0)),h):=by
  have key:ret1 (1,5,0) (aRun E (12 + 1) 97 [.sl true [] (some 0)] [])=some (.ret (.sl true [] (some 0)),none):=by
    rw [aRun_fn rfl E_fn97 rfl (Nat.le_of_ble_eq_true rfl),body_97,c97]
    simp [ret1]
  obtain ⟨hf,h1,h2⟩:=ret1_eq key
  rw [FO.op_fresh (m:=m) (slot:=slot) (h:=h) [] (by rfl) (aRun_le E (12 + 1) q hq _ _ _ _ h1) (by rfl) (by rfl) (by simp) (by rfl)]
  rfl
theorem clip_emp (q:Nat) (hq:13 ≤ q) (slot:Nat) (h:Heap) (key:Key) (hk:lookK h key=some (br [] true)):opened [true] false (aRun E q) slot 97 [.ref key 0 0 (some 0)] h=some (.ret (.sl false [] (some 0)),h):=by
  have kb:=bs_kl []
  have rb:∀ φ,AV.rnL φ (bs [])=bs []:=fun φ => rnL_pure _ (bs_pure [])
  have key0:ret1 (0,0,0) (aRun E (12 + 1) 97 [.ref (0,0,0) 0 0 (some 0)] [((0,0,0),br [] true)])=some (.ret (.sl false [] (some 0)),some (br [] true)):=by
    rw [aRun_fn rfl E_fn97 rfl (Nat.le_of_ble_eq_true rfl),body_97,c97]
    simp [ret1,kb,bs_nil,AV.keysL,AV.rnL]
  obtain ⟨hf,h1,h2⟩:=ret1_eq key0
  have hr:=aRun_le E (12 + 1) q hq _ _ _ _ h1
  unfold opened
  have e1:sealM (sealA 20) [true] h [.ref key 0 0 (some 0)]=some ([.ref key 0 0 (some 0)],h):=rfl
  rw [e1]
  simp only
  have e0:AV.keysL [.ref key 0 0 (some 0)]=[key]:=rfl
  rw [e0]
  have e2:dd (reach h 3 [key])=[key]:=by simp [reach,hk,kb,dd,bs_nil,AV.keysL,AV.rnL]
  rw [e2]
  unfold lendA
  have e3:lendH h (inK [key]) [key]=some [((0,0,0),br [] true)]:=by simp [lendH,hk,inK,posK,rb,bs_nil,AV.keysL,AV.rnL]
  rw [e3]
  have e4:closedH h [key] [key]=true:=by simp [closedH,hk,kb,bs_nil,AV.keysL,AV.rnL]
  simp only [e0]
  rw [if_pos ⟨e4,by simp [inKs]⟩]
  have e5:AV.rnL (inK [key]) [.ref key 0 0 (some 0)]=[.ref (0,0,0) 0 0 (some 0)]:=by simp [AV.rnL,AV.rn,inK,posK]
  rw [e5,hr]
  have e9:lentKs 1=[(0,0,0)]:=rfl
  have e8:AV.keysL [AV.sl false [] (some 0)]=[]:=rfl
  have e7:dd (reach hf 3 ([(0,0,0)] ++ []))=[(0,0,0)]:=by simp [reach,h2,kb,dd,bs_nil,AV.keysL,AV.rnL]
  have e10:closedH hf [(0,0,0)] [(0,0,0)]=true:=by simp [closedH,h2,kb,bs_nil,AV.keysL,AV.rnL]
  simp only [backR,Bool.false_eq_true,if_false,backV,Ab.back,List.length_singleton,e8,e9,e7,backA]
  rw [if_pos ⟨e10,by rfl,by rfl,by rfl⟩]
  have sk:=FO.setK_same h key _ hk
  simp only [br,bs_nil] at h2 sk
  simp [AV.rnL,AV.rn,outK,posK,putAll,h2,rb,sk,bs_nil,AV.keysL,AV.rnL]
theorem clip_row (q:Nat) (hq:13 ≤ q) (slot:Nat) (h:Heap) (key:Key) (b:List Int) (ex:Bool) (hb:b ≠ []) (hk:lookK h key=some (br b ex)):opened [true] false (aRun E q) slot 97 [.ref key 0 b.length none] h=some (.ret (.ref key 0 b.length (some b.length)),h):=by
  have kb:=bs_kl b
  have lbs:=bs_len b
  have rb:∀ φ,AV.rnL φ (bs b)=bs b:=fun φ => rnL_pure _ (bs_pure b)
  have key0:ret1 (0,0,0) (aRun E (12 + 1) 97 [.ref (0,0,0) 0 b.length none] [((0,0,0),br b ex)])=some (.ret (.ref (0,0,0) 0 b.length (some b.length)),some (br b ex)):=by
    rw [aRun_fn rfl E_fn97 rfl (Nat.le_of_ble_eq_true rfl),body_97,c97]
    simp [ret1,kb,hb]
  obtain ⟨hf,h1,h2⟩:=ret1_eq key0
  have hr:=aRun_le E (12 + 1) q hq _ _ _ _ h1
  unfold opened
  have e1:sealM (sealA 20) [true] h [.ref key 0 b.length none]=some ([.ref key 0 b.length none],h):=rfl
  rw [e1]
  simp only
  have e0:AV.keysL [.ref key 0 b.length none]=[key]:=rfl
  rw [e0]
  have e2:dd (reach h 3 [key])=[key]:=by simp [reach,hk,kb,dd]
  rw [e2]
  unfold lendA
  have e3:lendH h (inK [key]) [key]=some [((0,0,0),br b ex)]:=by simp [lendH,hk,inK,posK,rb]
  rw [e3]
  have e4:closedH h [key] [key]=true:=by simp [closedH,hk,kb]
  simp only [e0]
  rw [if_pos ⟨e4,by simp [inKs]⟩]
  have e5:AV.rnL (inK [key]) [.ref key 0 b.length none]=[.ref (0,0,0) 0 b.length none]:=by simp [AV.rnL,AV.rn,inK,posK]
  rw [e5,hr]
  have e9:lentKs 1=[(0,0,0)]:=rfl
  have e8:AV.keysL [AV.ref (0,0,0) 0 b.length (some b.length)]=[(0,0,0)]:=rfl
  have e7:dd (reach hf 3 ([(0,0,0)] ++ [(0,0,0)]))=[(0,0,0)]:=by simp [reach,h2,kb,dd]
  have e10:closedH hf [(0,0,0)] [(0,0,0)]=true:=by simp [closedH,h2,kb]
  simp only [backR,Bool.false_eq_true,if_false,backV,Ab.back,List.length_singleton,e8,e9,e7,backA]
  rw [if_pos ⟨e10,by rfl,by rfl,by rfl⟩]
  have sk:=FO.setK_same h key _ hk
  simp [AV.rnL,AV.rn,outK,posK,putAll,h2,rb,sk]
end F44
end
section
open Ab Go TabE Sp E34 F1 F4 F5 F31 F43 F44
namespace F45
def ret2 (k l:Key):Option (ARes × Heap) → Option (ARes × Option AObj × Option AObj)
  | some (r,h) => some (r,lookK h k,lookK h l)
  | none => none
theorem ret2_eq {k l:Key} {x:Option (ARes × Heap)} {r a b} (h:ret2 k l x=some (r,a,b)):∃ hf,x=some (r,hf) ∧ lookK hf k=a ∧ lookK hf l=b:=by
  unfold ret2 at h
  split at h
  · cases h; exact ⟨_,rfl,rfl,rfl⟩
  · cases h
abbrev er (s:List El):AObj:=⟨El.fl s,true,true,true,5,true⟩
abbrev CV (e:El) (B:AV) (k:Key):AV:=.agg [.int .u8 e.c,.bool e.k,.int .u32 e.n,B,.ref k 0 e.s.length (some e.s.length)]
theorem nilC (e:El) (hb:e.b=[]) (ls:e.s.length ≤ 1000000) (N:Nat) (B:∀ x ∈ e.s,Con E N 86 [x.av] (clo x).av):∃ h,(∀ q,N + e.s.length + 62 ≤ q → aRun E q 86 [e.av] []=some (.ret (CV e (.sl e.fb [] (some 0)) (1,14,0)),h)) ∧ lookK h (1,14,0)=some (er (e.s.map clo)):=by
  obtain ⟨K,hK⟩:∃ K,N + e.s.length + 61=K:=⟨_,rfl⟩
  have rl:row e e.s.length=e.s.map clo:=by unfold row; rw [Nat.sub_self,List.take_of_length_le (by simp)]; simp
  have r0:row e 0=List.replicate e.s.length E32.z0:=by unfold row; simp
  have L:=loopO (fn:=fn86) (b:=b86) (K:=K) (k:=K) (fun i => SN e (row e i) i) e.s.length rfl (fun i hi => by
    obtain ⟨x,hx⟩:∃ x,e.s[i]? = some x:=⟨e.s[i],by simp⟩
    have:=goN K K e x (row e i) i hx (row_len e i (by omega)) ls fun h => B x (List.mem_of_getElem? hx) K (by omega) 0 h
    rwa [row_next e x i hx] at this) (lastN K K e _) (by simp) (by omega)
  rw [rl,r0] at L
  have f1:=El.fl_len (e.s.map clo)
  have f2:=El.fl_keys (e.s.map clo)
  have f3:=El.fl_keys (List.replicate e.s.length E32.z0)
  have cp56:(e.s.length:Int) * 56 ≤ 70368744177664:=by omega
  have lv:=El.avs_len e.s
  have h0:(0:Int) ≤ e.s.length:=by omega
  have c1:=fun m slot c h => clone_nil K (by omega) m slot c h
  have c2:=fun m slot h => clip_nil K (by omega) m slot h
  have c3:=fun m slot c h => clone_emp K (by omega) m slot c h
  have c4:=fun slot h hk => clip_emp K (by omega) slot h (1,8,0) hk
  have key:ret2 (1,8,0) (1,14,0) (aRun E (K + 1) 86 [e.av] [])=some (.ret (CV e (.sl e.fb [] (some 0)) (1,14,0)),none,some (er (e.s.map clo))):=by
    rw [aRun_fn rfl E_fn86 rfl (Nat.le_of_ble_eq_true rfl),body_86,c86]
    simp [b86,lp,lps,c86,firstReg,SN,bx] at L
    cases hf:e.fb <;> (rw [hf] at L; simp [El.av_eq,-s_round,L,hb,hf,lv,c1,c2,c3,c4,f1,f2,f3,E32.fl_rep,cp56,List.length_map,ret2])
  obtain ⟨hh,q1,q2,q3⟩:=ret2_eq key
  exact ⟨hh,fun q hq => aRun_le E (K + 1) q (by omega) _ _ _ _ q1,q3⟩
theorem rowC (e:El) (hf:e.fb=false) (hb:e.b ≠ []) (lb:e.b.length ≤ 1000000) (ls:e.s.length ≤ 1000000) (N:Nat) (B:∀ x ∈ e.s,Con E N 86 [x.av] (clo x).av):∃ h,(∀ q,N + e.s.length + 62 ≤ q → aRun E q 86 [e.av] []=some (.ret (CV e (.ref (1,8,0) 0 e.b.length (some e.b.length)) (1,14,0)),h)) ∧ lookK h (1,8,0)=some (br e.b false) ∧ lookK h (1,14,0)=some (er (e.s.map clo)):=by
  obtain ⟨K,hK⟩:∃ K,N + e.s.length + 61=K:=⟨_,rfl⟩
  have rl:row e e.s.length=e.s.map clo:=by unfold row; rw [Nat.sub_self,List.take_of_length_le (by simp)]; simp
  have r0:row e 0=List.replicate e.s.length E32.z0:=by unfold row; simp
  have L:=loopO (fn:=fn86) (b:=b86) (K:=K) (k:=K) (fun i => SR e (row e i) i false) e.s.length rfl (fun i hi => by
    obtain ⟨x,hx⟩:∃ x,e.s[i]? = some x:=⟨e.s[i],by simp⟩
    have:=goR K K e x (row e i) i false hx (row_len e i (by omega)) ls fun h => B x (List.mem_of_getElem? hx) K (by omega) 0 h
    rwa [row_next e x i hx] at this) (lastR K K e _ false) (by simp) (by omega)
  rw [rl,r0] at L
  have f1:=El.fl_len (e.s.map clo)
  have f2:=El.fl_keys (e.s.map clo)
  have f3:=El.fl_keys (List.replicate e.s.length E32.z0)
  have cp56:(e.s.length:Int) * 56 ≤ 70368744177664:=by omega
  have lv:=El.avs_len e.s
  have c1:=clone_row e.b lb hb K (by omega)
  have c2:=fun slot h hk => clip_row K (by omega) slot h (1,8,0) e.b false hb hk
  have key:ret2 (1,8,0) (1,14,0) (aRun E (K + 1) 86 [e.av] [])=some (.ret (CV e (.ref (1,8,0) 0 e.b.length (some e.b.length)) (1,14,0)),some (br e.b false),some (er (e.s.map clo))):=by
    rw [aRun_fn rfl E_fn86 rfl (Nat.le_of_ble_eq_true rfl),body_86,c86]
    simp [b86,lp,lps,c86,firstReg,SR,bx] at L
    simp [El.av_eq,-s_round,L,hf,hb,lv,c1,c2,f1,f2,f3,E32.fl_rep,cp56,List.length_map,ret2]
  obtain ⟨hh,q1,q2,q3⟩:=ret2_eq key
  exact ⟨hh,fun q hq => aRun_le E (K + 1) q (by omega) _ _ _ _ q1,q2,q3⟩
end F45
end
end
section
open Ab Go TabE Sp E34 F1 F4 F5 F31 F43 F44 F45
namespace F46
theorem seal_row (n:Nat) (h:Heap) (key:Key) (b:List Int) (ex:Bool) (cap:Option Nat) (hk:lookK h key=some (br b ex)):sealA (n + 2) h (.ref key 0 b.length cap)=some (.sl false (bs b) cap,setK h key { br b ex with mt:=false }) :=
  seal_bytes hk rfl rfl rfl (by rw [bs_len]; omega) (by rw [List.drop_zero,← bs_len b,List.take_length])
theorem seal_els (n:Nat) (h:Heap) (key:Key) (s:List El) (cap:Option Nat) (hk:lookK h key=some (er s)):sealA (n + 2) h (.ref key 0 s.length cap)=some (.sl false (El.avs s) cap,setK h key { er s with mt:=false }):=E32.sealX_fl n h key s cap true true hk
theorem cl_av (e:El):(clo e).av=.agg [.int .u8 e.c,.bool e.k,.int .u32 e.n,.sl e.fb (bs e.b) (some e.b.length),.sl false (El.avs (e.s.map clo)) (some e.s.length)]:=by rw [cl_eq]; rfl
theorem sealR {e:El} {h:Heap} {ex:Bool} {k l:Key} (hf:e.fb=false) (kl:k ≠ l) (h1:lookK h k=some (br e.b ex)) (h2:lookK h l=some (er (e.s.map clo))):∃ g,sealA 20 h (CV e (.ref k 0 e.b.length (some e.b.length)) l)=some ((clo e).av,g):=by
  have s1:sealA 19 h (.ref k 0 e.b.length (some e.b.length))=_:=seal_row 17 h k e.b ex (some e.b.length) h1
  have s2:sealA 19 (setK h k { br e.b ex with mt:=false }) (.ref l 0 (e.s.map clo).length (some e.s.length))=_:=seal_els 17 (setK h k { br e.b ex with mt:=false }) l (e.s.map clo) (some e.s.length) (by rw [lookK_setK_other _ _ _ _ kl]; exact h2)
  rw [List.length_map] at s2
  refine ⟨setK (setK h k { br e.b ex with mt:=false }) l { er (e.s.map clo) with mt:=false },?_⟩
  rw [cl_av,hf]
  have a1:∀ g,sealA 19 g (.int .u8 e.c)=some (.int .u8 e.c,g):=fun g => rfl
  have a2:∀ g,sealA 19 g (.bool e.k)=some (.bool e.k,g):=fun g => rfl
  have a3:∀ g,sealA 19 g (.int .u32 e.n)=some (.int .u32 e.n,g):=fun g => rfl
  rw [show sealA 20 h (CV e (.ref k 0 e.b.length (some e.b.length)) l)=_ from sl_agg 19 h _]
  rw [if_neg (by simp [AV.pureL,AV.pure])]
  simp only [sealLW,a1,a2,a3,s1,s2]
  rfl
theorem sealN {e:El} {h:Heap} {l:Key} (hb:e.b=[]) (h2:lookK h l=some (er (e.s.map clo))):∃ g,sealA 20 h (CV e (.sl e.fb [] (some 0)) l)=some ((clo e).av,g):=by
  have s2:sealA 19 h (.ref l 0 (e.s.map clo).length (some e.s.length))=_:=seal_els 17 h l (e.s.map clo) (some e.s.length) h2
  rw [List.length_map] at s2
  refine ⟨setK h l { er (e.s.map clo) with mt:=false },?_⟩
  rw [cl_av,hb]
  have a1:∀ g,sealA 19 g (.int .u8 e.c)=some (.int .u8 e.c,g):=fun g => rfl
  have a2:∀ g,sealA 19 g (.bool e.k)=some (.bool e.k,g):=fun g => rfl
  have a3:∀ g,sealA 19 g (.int .u32 e.n)=some (.int .u32 e.n,g):=fun g => rfl
  have a4:∀ g,sealA 19 g (.sl e.fb [] (some 0))=some (.sl e.fb [] (some 0),g):=fun g => rfl
  rw [show sealA 20 h (CV e (.sl e.fb [] (some 0)) l)=_ from sl_agg 19 h _]
  rw [if_neg (by simp [AV.pureL,AV.pure])]
  simp only [sealLW,a1,a2,a3,a4,s2]
  rfl
theorem clone:∀ e:El,E31.Nn e → E33.Sh e → ∃ N,Con E N 86 [e.av] (clo e).av:=by
  refine El.ind fun e ih hn hs => ?_
  obtain ⟨_,n1,n2,n3⟩:=hn
  obtain ⟨_,s1,s2,s3⟩:=hs
  obtain ⟨N,hN⟩:=unif (P:=fun (x:El) (n:Nat) => Con E n 86 [x.av] (clo x).av) (fun x n m h hm => h.mono hm) e.s (fun x hx => ih x hx (n3 x hx) (s3 x hx))
  have pa:AV.pureL [e.av]=true:=by simp [AV.pureL,El.av_pure]
  by_cases hb:e.b=[]
  · obtain ⟨h,q1,q3⟩:=nilC e hb s2 N hN
    obtain ⟨g,hg⟩:=sealN hb q3
    exact ⟨_,Con.ofRun pa q1 hg (El.av_pure _)⟩
  · have hf:e.fb=false:=by cases q:e.fb; rfl; exact absurd (n1 q) hb
    obtain ⟨h,q1,q2,q3⟩:=rowC e hf hb s1 s2 N hN
    obtain ⟨g,hg⟩:=sealR hf (by simp) q2 q3
    exact ⟨_,Con.ofRun pa q1 hg (El.av_pure _)⟩
end F46
end
section
open Ab Go TabE Sp
namespace FW
mutual
def few (B S:Nat):Cr → Int → Int → Int × Int
  | .mk _ _ _ b s,l,d => if l - 1 < 0 ∨ 20 < d ∨ B < b.length ∨ S < s.length then (0,l - 1) else fews B S s (l - 1) d
def fews (B S:Nat):List Cr → Int → Int → Int × Int
  | [],l,_ => (1,l)
  | x :: r,l,d => if (few B S x l (d + 1)).1=0 then (0,(few B S x l (d + 1)).2) else fews B S r (few B S x l (d + 1)).2 d
end
mutual
theorem few_le:∀ (c:Cr) (B S:Nat) (l d:Int),(few B S c l d).2 ≤ l
  | .mk _ _ _ b s,B,S,l,d => by
    unfold few
    split
    · simp only; omega
    · have:=fews_le s B S (l - 1) d; omega
theorem fews_le:∀ (s:List Cr) (B S:Nat) (l d:Int),(fews B S s l d).2 ≤ l
  | [],B,S,l,d => by unfold fews; simp
  | x :: r,B,S,l,d => by
    unfold fews
    have a:=few_le x B S l (d + 1)
    split
    · exact a
    · have:=fews_le r B S (few B S x l (d + 1)).2 d; omega
end
mutual
theorem few_ok:∀ (c:Cr) (B S:Nat) (l d:Int),(few B S c l d).1 ≠ 0 → 0 ≤ (few B S c l d).2 ∧ (few B S c l d).2=l - cnt c ∧ d + dep c ≤ 21 ∧ (few B S c l d).1=1
  | .mk _ _ _ b s,B,S,l,d,h => by
    unfold few at h ⊢
    unfold cnt dep
    split at h
    · exact absurd rfl h
    · rename_i hc
      rw [if_neg hc]
      obtain ⟨h1,h2,h3,h4⟩:=fews_ok s B S (l - 1) d (by omega) (by omega) h
      exact ⟨h1,by omega,by omega,h4⟩
theorem fews_ok:∀ (s:List Cr) (B S:Nat) (l d:Int),0 ≤ l → d ≤ 20 → (fews B S s l d).1 ≠ 0 → 0 ≤ (fews B S s l d).2 ∧ (fews B S s l d).2=l - cnts s ∧ d + deps s ≤ 20 ∧ (fews B S s l d).1=1
  | [],B,S,l,d,h0,hd,h => by unfold fews cnts deps; simp; omega
  | x :: r,B,S,l,d,h0,hd,h => by
    unfold fews at h ⊢
    unfold cnts deps
    split at h
    · exact absurd rfl h
    · rename_i hc
      rw [if_neg hc]
      obtain ⟨a1,a2,a3,a4⟩:=few_ok x B S l (d + 1) hc
      obtain ⟨b1,b2,b3,b4⟩:=fews_ok r B S (few B S x l (d + 1)).2 d a1 hd h
      have:=deps_pos r
      have:=dep_pos x
      exact ⟨b1,by omega,by omega,b4⟩
end
inductive Fe (B S:Nat):El → Prop
  | mk (e:El):e.b.length ≤ B → e.s.length ≤ S → (∀ x ∈ e.s,Fe B S x) → Fe B S e
theorem fe_all (B S:Nat):∀ (r:List El) (l d:Int),(fews B S (El.cores r) l d).1 ≠ 0 → (∀ x ∈ r,∀ l d,(few B S x.core l d).1 ≠ 0 → Fe B S x) → ∀ x ∈ r,Fe B S x
  | [],l,d,h,ih,x,hx => by cases hx
  | y :: r,l,d,h,ih,x,hx => by
    rw [El.cores] at h
    unfold fews at h
    split at h
    · exact absurd rfl h
    · rename_i hc
      rcases List.mem_cons.1 hx with rfl | hx
      · exact ih x (by simp) _ _ hc
      · exact fe_all B S r _ _ h (fun z hz => ih z (by simp [hz])) x hx
theorem few_fe (B S:Nat):∀ (e:El) (l d:Int),(few B S e.core l d).1 ≠ 0 → Fe B S e:=by
  refine El.ind fun e ih l d h => ?_
  rw [El.core_eq e] at h
  unfold few at h
  have cl:(El.cores e.s).length=e.s.length:=by rw [El.cores_map,List.length_map]
  rw [cl] at h
  split at h
  · exact absurd rfl h
  · rename_i hc
    exact .mk e (by omega) (by omega) (fe_all B S e.s _ _ h ih)
theorem fe_fw {B S:Nat}:∀ e:El,Fe B S e → E18.Fw B e:=by
  refine El.ind fun e ih h => ?_
  obtain ⟨_,h1,h2,h3⟩:=h
  exact .mk e h1 fun x hx => ih x hx (h3 x hx)
end FW
end
section
open Ab Go TabE
attribute [local simp ↓] s_seq s_reg s_regd s_cond s_block s_cons s_consG s_regD
attribute [local simp] s_nil s_loop s_round s_lpn s_lpe s_lpr firstReg s_gt s_gf s_wb s_wu s_val s_valN s_skip s_calls s_callP s_cax lookR flatR pureKs s_ret s_rgx s_sqn s_sqr s_sqe s_cdb s_bkn s_bkr s_bke s_exit s_ret' s_skip' s_finr s_finn s_fin1 s_fix s_clean s_gc0 o_tmp o_int o_bool o_nil o_str o_fn o_nil' l_hit l_miss l_nil ol_nil ol_cons ol_some x_move x_assign x_pick pk_t pk_f x_bin bn_s x_un x_extract x_callF cl_no x_callB x_callBF frzV x_conv cvx convA frame0 binA intOp resL resA results1 sealLW AV.pure AV.pureL keepT x_alloc x_box bxx x_build bdx x_buildSlice bsx x_buildSliceF bsf x_load ldx x_store stx x_slice slx x_fieldAddr x_field x_index ixx x_indexAddr iax x_makeSlice msx x_makeSliceF msf x_nilCheck newK genOf setK lookK fillA writeL writeC readC conts TyI.mk1 sliceA boundsA boundsB fitsA numA indexAddrA fieldAddrA partA fieldA indexA appendA copyA builtinA AV.cells chunk gcH reach keysT keepK inKs AV.keys AV.keysL Ty.isAgg eq1 eqL convA.go ltI w_u8 w_u32 w_u64 w_i64 w_fdiv w_tdiv w_tmod IntKind.bits unA sc_int sc_bool sc_str sc_sl sc_ref sc_ptr sc_pel sc_nilp sc_fn sc_nilf sc_if sc_nili sc_agg sc_tup sc_mem bs_pure bs_kl bs_length bs_cells bs_all sl_row sealRow sealY sl_int sl_bool sl_str sl_sl sl_nilp sl_nilf sl_nili sl_pel sl_agg sl_tup sl_fn sl_if nat_1 bs_cons bs_nil i_beq i_bne x_mkF x_mkI x_tassert x_panic s_pan s_sqp s_bkp s_finp s_fixp s_lpp s_rgp s_retp s_site s_stxN s_stxO x_callT clx El.avs_len s_dyn0 s_rgy barOf dynChk footL dynOK disjK keysOp opVals Op.operands
section
open Ab Go TabE Sp E34 F1 F44 F45 F46
namespace F61
mutual
def cpy:El → El
  | .mk c k n _ b _ _ s _ => .mk c k n b.isEmpty b (if b.isEmpty then some 0 else none) s.isEmpty (cpys s) (if s.isEmpty then some 0 else none)
def cpys:List El → List El
  | [] => []
  | x :: r => cpy x :: cpys r
end
theorem cpys_map:∀ l,cpys l=l.map cpy
  | [] => rfl
  | e :: r => by rw [cpys,cpys_map r]; rfl
theorem cpy_eq (e:El):cpy e=.mk e.c e.k e.n e.b.isEmpty e.b (if e.b.isEmpty then some 0 else none) e.s.isEmpty (e.s.map cpy) (if e.s.isEmpty then some 0 else none):=by cases e; rw [cpy,cpys_map]; rfl
theorem cpy_av (e:El):(cpy e).av=.agg [.int .u8 e.c,.bool e.k,.int .u32 e.n,.sl e.b.isEmpty (bs e.b) (if e.b.isEmpty then some 0 else none),.sl e.s.isEmpty (El.avs (e.s.map cpy)) (if e.s.isEmpty then some 0 else none)]:=by rw [cpy_eq]; rfl
theorem cpy_core:∀ e:El,(cpy e).core=e.core:=by
  refine El.ind fun e ih => ?_
  rw [cpy_eq,El.core_eq e,El.core,El.cores_map,El.cores_map,List.map_map]
  congr 1
  exact List.map_congr_left fun x hx => ih x hx
def b:Code:=lp c66 0
abbrev zz:List AV:=[.int .u8 0,.bool false,.int .u32 0,.sl true [] (some 0),.sl true [] (some 0)]
abbrev AN (e:El) (i:Nat):St:=⟨[(1,.ptr (1,1,0) 0),(2,.ptr (1,2,0) 0),(3,.ptr (1,3,0) 0),(4,.int .i64 (i:Int))],[((1,1,0),bx (ec e)),((1,2,0),bx zz),((1,3,0),bx [.int .u8 e.c,.bool e.k,.int .u32 e.n,.sl true [] (some 0),.sl true [] (some 0)])]⟩
abbrev SN (e:El) (i m:Nat) (l:List El):St:=⟨[(1,.ptr (1,1,0) 0),(2,.ptr (1,2,0) 0),(3,.ptr (1,3,0) 0),(4,.int .i64 (i:Int))],[((1,1,0),bx (ec e)),((1,2,0),bx zz),((1,3,0),bx [.int .u8 e.c,.bool e.k,.int .u32 e.n,.sl true [] (some 0),.ref (1,27,m) 0 l.length none]),((1,27,m),⟨El.fl l,true,true,false,5,true⟩)]⟩
theorem go0N (q k1:Nat) (e x:El) (i:Nat) (hx:e.s[i]? = some x) (le:e.s.length ≤ 1000) (B:∀ h,aCall E q 0 66 [x.av] h=some (.ret (cpy x).av,h)):rndO fn66 b q k1 (AN e i)=some (.normal,SN e (i + 1) 0 [cpy x]):=by
  have hi:i < e.s.length:=(List.getElem?_eq_some_iff.1 hx).1
  have ix:=El.at_ e.fs e.cs e.s i x hx
  have w:=w64' ((i:Int) + 1) (by omega) (by omega)
  have kb:=bs_kl e.b
  rw [El.av_eq,El.av_eq] at B
  simp [b,lp,lps,c66,-indexAddrA,ix,w,hi,B,kb,El.fl_one]
theorem goSN (q k1:Nat) (e x:El) (i m:Nat) (l:List El) (ll:l.length ≤ 1000) (hx:e.s[i]? = some x) (le:e.s.length ≤ 1000) (B:∀ h,aCall E q 0 66 [x.av] h=some (.ret (cpy x).av,h)):rndO fn66 b q k1 (SN e i m l)=some (.normal,SN e (i + 1) (m + 1) (l ++ [cpy x])):=by
  have hi:i < e.s.length:=(List.getElem?_eq_some_iff.1 hx).1
  have ix:=El.at_ e.fs e.cs e.s i x hx
  have w:=w64' ((i:Int) + 1) (by omega) (by omega)
  have kb:=bs_kl e.b
  have f1:=El.fl_len l
  have f2:=El.fl_keys l
  have cp1:(l.length + 1) * 56 ≤ 70368744177664:=by omega
  rw [El.av_eq,El.av_eq] at B
  simp [b,lp,lps,c66,-indexAddrA,ix,w,hi,B,kb,El.fl_snoc,El.fl_keysr,f1,f2,cp1]
theorem lastAN (q k1:Nat) (e:El):rndO fn66 b q k1 (AN e e.s.length)=some (.exit 0,⟨(AN e e.s.length).t ++ [(15,.bool false)],(AN e e.s.length).h⟩):=by
  have kb:=bs_kl e.b
  simp [b,lp,lps,c66,kb]
theorem lastSN (q k1:Nat) (e:El) (m:Nat) (l:List El):rndO fn66 b q k1 (SN e e.s.length m l)=some (.exit 0,⟨(SN e e.s.length m l).t ++ [(15,.bool false)],(SN e e.s.length m l).h⟩):=by
  have kb:=bs_kl e.b
  have f2:=El.fl_keys l
  simp [b,lp,lps,c66,kb,f2]
abbrev ON (e:El):List El → Nat → AExit × St
  | [],_ => (.exit 0,⟨(AN e e.s.length).t ++ [(15,.bool false)],(AN e e.s.length).h⟩)
  | x :: r,m => (.exit 0,⟨(SN e e.s.length m (x :: r)).t ++ [(15,.bool false)],(SN e e.s.length m (x :: r)).h⟩)
theorem loopSN (K:Nat) (e:El) (le:e.s.length ≤ 1000) (B:∀ x ∈ e.s,∀ h,aCall E K 0 66 [x.av] h=some (.ret (cpy x).av,h)):∀ (r l:List El) (i m k:Nat),e.s.drop i=r → i ≤ e.s.length → l ≠ [] → l.length ≤ i → r.length < k →
    ∃ m',aLoop (aCode E (site fn66 (aRun E K)) (dcall (aRun E K)) K 1 fn66 b) (cleanS 1 ((firstReg b).bind fn66.head)) k (SN e i m l)=some (ON e (l ++ r.map cpy) m')
  | [],l,i,m,k,h1,hi,hl,ll,hk => by
    obtain ⟨k,rfl⟩:∃ j,k=j + 1:=⟨k - 1,by omega⟩
    have q:=congrArg List.length h1
    rw [List.length_drop,List.length_nil] at q
    obtain rfl:i=e.s.length:=by omega
    cases l with
    | nil => exact absurd rfl hl
    | cons y l => exact ⟨m,by rw [List.map_nil,List.append_nil]; exact aLoop_end (lastSN K K e m (y :: l)) (fun h => by cases h)⟩
  | x :: r,l,i,m,k,h1,hi,hl,ll,hk => by
    obtain ⟨k,rfl⟩:∃ j,k=j + 1:=⟨k - 1,by omega⟩
    have q:=congrArg List.length h1
    rw [List.length_drop,List.length_cons] at q
    have hx:e.s[i]? = some x:=by
      have:=congrArg (fun l => l[0]?) h1
      simpa [List.getElem?_drop] using this
    have hd:e.s.drop (i + 1)=r:=by
      have:=congrArg List.tail h1
      simpa [List.tail_drop] using this
    obtain ⟨m',h⟩:=loopSN K e le B r (l ++ [cpy x]) (i + 1) (m + 1) k hd (by omega) (by simp) (by simp; omega) (by simp at hk; omega)
    refine ⟨m',?_⟩
    rw [aLoop_succ (goSN K K e x i m l (by omega) hx le (B x (List.mem_of_getElem? hx))),h,List.map_cons,List.append_assoc]
    rfl
theorem loopN (K:Nat) (e:El) (le:e.s.length ≤ 1000) (B:∀ x ∈ e.s,∀ h,aCall E K 0 66 [x.av] h=some (.ret (cpy x).av,h)) (hk:e.s.length < K) :
    ∃ m',aLoop (aCode E (site fn66 (aRun E K)) (dcall (aRun E K)) K 1 fn66 b) (cleanS 1 ((firstReg b).bind fn66.head)) K (AN e 0)=some (ON e (e.s.map cpy) m'):=by
  obtain ⟨k,hk'⟩:∃ j,K=j + 1:=⟨K - 1,by omega⟩
  cases hs:e.s with
  | nil =>
    have h:=lastAN K K e
    rw [hs] at h
    have h2:=aLoop_end (k:=k) h (fun h => by cases h)
    rw [← hk'] at h2
    refine ⟨0,?_⟩
    rw [List.map_nil]
    simp only [ON,hs]
    exact h2
  | cons x r =>
    have hx:e.s[0]? = some x:=by rw [hs]; rfl
    obtain ⟨m',h⟩:=loopSN K e le B r [cpy x] 1 0 k (by rw [hs]; rfl) (by rw [hs]; simp) (by simp) (by simp) (by rw [hs] at hk; simp at hk; omega)
    have h2:=aLoop_succ (k:=k) (go0N K K e x 0 hx le (B x (List.mem_of_getElem? hx)))
    rw [← hk'] at h2
    exact ⟨m',h2.trans h⟩
abbrev AR (e:El) (i:Nat):St:=⟨[(1,.ptr (1,1,0) 0),(2,.ptr (1,2,0) 0),(3,.ptr (1,3,0) 0),(4,.int .i64 (i:Int))],[((1,1,0),bx (ec e)),((1,2,0),bx zz),((1,9,0),br e.b false),((1,3,0),bx [.int .u8 e.c,.bool e.k,.int .u32 e.n,.ref (1,9,0) 0 e.b.length none,.sl true [] (some 0)])]⟩
abbrev SR (e:El) (i m:Nat) (l:List El):St:=⟨[(1,.ptr (1,1,0) 0),(2,.ptr (1,2,0) 0),(3,.ptr (1,3,0) 0),(4,.int .i64 (i:Int))],[((1,1,0),bx (ec e)),((1,2,0),bx zz),((1,9,0),br e.b false),((1,3,0),bx [.int .u8 e.c,.bool e.k,.int .u32 e.n,.ref (1,9,0) 0 e.b.length none,.ref (1,27,m) 0 l.length none]),((1,27,m),⟨El.fl l,true,true,false,5,true⟩)]⟩
theorem go0R (q k1:Nat) (e x:El) (i:Nat) (hx:e.s[i]? = some x) (le:e.s.length ≤ 1000) (B:∀ h,aCall E q 0 66 [x.av] h=some (.ret (cpy x).av,h)):rndO fn66 b q k1 (AR e i)=some (.normal,SR e (i + 1) 0 [cpy x]):=by
  have hi:i < e.s.length:=(List.getElem?_eq_some_iff.1 hx).1
  have ix:=El.at_ e.fs e.cs e.s i x hx
  have w:=w64' ((i:Int) + 1) (by omega) (by omega)
  have kb:=bs_kl e.b
  rw [El.av_eq,El.av_eq] at B
  simp [b,lp,lps,c66,-indexAddrA,ix,w,hi,B,kb,El.fl_one]
theorem goSR (q k1:Nat) (e x:El) (i m:Nat) (l:List El) (ll:l.length ≤ 1000) (hx:e.s[i]? = some x) (le:e.s.length ≤ 1000) (B:∀ h,aCall E q 0 66 [x.av] h=some (.ret (cpy x).av,h)):rndO fn66 b q k1 (SR e i m l)=some (.normal,SR e (i + 1) (m + 1) (l ++ [cpy x])):=by
  have hi:i < e.s.length:=(List.getElem?_eq_some_iff.1 hx).1
  have ix:=El.at_ e.fs e.cs e.s i x hx
  have w:=w64' ((i:Int) + 1) (by omega) (by omega)
  have kb:=bs_kl e.b
  have f1:=El.fl_len l
  have f2:=El.fl_keys l
  have cp1:(l.length + 1) * 56 ≤ 70368744177664:=by omega
  rw [El.av_eq,El.av_eq] at B
  simp [b,lp,lps,c66,-indexAddrA,ix,w,hi,B,kb,El.fl_snoc,El.fl_keysr,f1,f2,cp1]
theorem lastAR (q k1:Nat) (e:El):rndO fn66 b q k1 (AR e e.s.length)=some (.exit 0,⟨(AR e e.s.length).t ++ [(15,.bool false)],(AR e e.s.length).h⟩):=by
  have kb:=bs_kl e.b
  simp [b,lp,lps,c66,kb]
theorem lastSR (q k1:Nat) (e:El) (m:Nat) (l:List El):rndO fn66 b q k1 (SR e e.s.length m l)=some (.exit 0,⟨(SR e e.s.length m l).t ++ [(15,.bool false)],(SR e e.s.length m l).h⟩):=by
  have kb:=bs_kl e.b
  have f2:=El.fl_keys l
  simp [b,lp,lps,c66,kb,f2]
abbrev OR (e:El):List El → Nat → AExit × St
  | [],_ => (.exit 0,⟨(AR e e.s.length).t ++ [(15,.bool false)],(AR e e.s.length).h⟩)
  | x :: r,m => (.exit 0,⟨(SR e e.s.length m (x :: r)).t ++ [(15,.bool false)],(SR e e.s.length m (x :: r)).h⟩)
theorem loopSR (K:Nat) (e:El) (le:e.s.length ≤ 1000) (B:∀ x ∈ e.s,∀ h,aCall E K 0 66 [x.av] h=some (.ret (cpy x).av,h)):∀ (r l:List El) (i m k:Nat),e.s.drop i=r → i ≤ e.s.length → l ≠ [] → l.length ≤ i → r.length < k →
    ∃ m',aLoop (aCode E (site fn66 (aRun E K)) (dcall (aRun E K)) K 1 fn66 b) (cleanS 1 ((firstReg b).bind fn66.head)) k (SR e i m l)=some (OR e (l ++ r.map cpy) m')
  | [],l,i,m,k,h1,hi,hl,ll,hk => by
    obtain ⟨k,rfl⟩:∃ j,k=j + 1:=⟨k - 1,by omega⟩
    have q:=congrArg List.length h1
    rw [List.length_drop,List.length_nil] at q
    obtain rfl:i=e.s.length:=by omega
    cases l with
    | nil => exact absurd rfl hl
    | cons y l => exact ⟨m,by rw [List.map_nil,List.append_nil]; exact aLoop_end (lastSR K K e m (y :: l)) (fun h => by cases h)⟩
  | x :: r,l,i,m,k,h1,hi,hl,ll,hk => by
    obtain ⟨k,rfl⟩:∃ j,k=j + 1:=⟨k - 1,by omega⟩
    have q:=congrArg List.length h1
    rw [List.length_drop,List.length_cons] at q
    have hx:e.s[i]? = some x:=by
      have:=congrArg (fun l => l[0]?) h1
      simpa [List.getElem?_drop] using this
    have hd:e.s.drop (i + 1)=r:=by
      have:=congrArg List.tail h1
      simpa [List.tail_drop] using this
    obtain ⟨m',h⟩:=loopSR K e le B r (l ++ [cpy x]) (i + 1) (m + 1) k hd (by omega) (by simp) (by simp; omega) (by simp at hk; omega)
    refine ⟨m',?_⟩
    rw [aLoop_succ (goSR K K e x i m l (by omega) hx le (B x (List.mem_of_getElem? hx))),h,List.map_cons,List.append_assoc]
    rfl
theorem loopR (K:Nat) (e:El) (le:e.s.length ≤ 1000) (B:∀ x ∈ e.s,∀ h,aCall E K 0 66 [x.av] h=some (.ret (cpy x).av,h)) (hk:e.s.length < K) :
    ∃ m',aLoop (aCode E (site fn66 (aRun E K)) (dcall (aRun E K)) K 1 fn66 b) (cleanS 1 ((firstReg b).bind fn66.head)) K (AR e 0)=some (OR e (e.s.map cpy) m'):=by
  obtain ⟨k,hk'⟩:∃ j,K=j + 1:=⟨K - 1,by omega⟩
  cases hs:e.s with
  | nil =>
    have h:=lastAR K K e
    rw [hs] at h
    have h2:=aLoop_end (k:=k) h (fun h => by cases h)
    rw [← hk'] at h2
    refine ⟨0,?_⟩
    rw [List.map_nil]
    simp only [OR,hs]
    exact h2
  | cons x r =>
    have hx:e.s[0]? = some x:=by rw [hs]; rfl
    obtain ⟨m',h⟩:=loopSR K e le B r [cpy x] 1 0 k (by rw [hs]; rfl) (by rw [hs]; simp) (by simp) (by simp) (by rw [hs] at hk; simp at hk; omega)
    have h2:=aLoop_succ (k:=k) (go0R K K e x 0 hx le (B x (List.mem_of_getElem? hx)))
    rw [← hk'] at h2
    exact ⟨m',h2.trans h⟩
theorem copied:∀ e:El,FW.Fe 1000 1000 e → ∃ N,Con E N 66 [e.av] (cpy e).av:=by
  refine El.ind fun e ih h => ?_
  obtain ⟨_,h1,h2,h3⟩:=h
  obtain ⟨N,hN⟩:=unif (P:=fun (x:El) (n:Nat) => Con E n 66 [x.av] (cpy x).av) (fun x n m h hm => h.mono hm) e.s (fun x hx => ih x hx (h3 x hx))
  obtain ⟨K,hK⟩:∃ K,N + e.s.length + 60=K:=⟨_,rfl⟩
  have B:∀ x ∈ e.s,∀ h,aCall E K 0 66 [x.av] h=some (.ret (cpy x).av,h):=fun x hx h => hN x hx K (by omega) 0 h
  have kb:=bs_kl e.b
  have cp1:e.b.length ≤ 70368744177664:=by omega
  refine ⟨K + 1,con_ofO E_fn66 (by simp [AV.pureL,El.av_pure]) (Nat.le_of_ble_eq_true rfl) rfl (g:=[]) ?_⟩
  rw [body_66,c66,cpy_av]
  by_cases hb:e.b=[]
  · obtain ⟨m,L⟩:=loopN K e h2 B (by omega)
    have ie:e.b.isEmpty=true:=by rw [hb]; rfl
    rw [ie,hb]
    simp [b,lp,lps,c66,firstReg,AN,bx,ec,hb,bs_nil] at L
    cases hs:e.s with
    | nil =>
      rw [hs] at L
      simp [ON,AN,El.avs] at L
      simp [El.av_eq,Call.operands,-s_round,hb,hs,El.avs,L]
    | cons x r =>
      rw [hs] at L
      have sx:=fun n h key => E32.sealX_fl n h key (cpy x :: r.map cpy) none true false
      have f1:=El.fl_len (cpy x :: r.map cpy)
      have f2:=El.fl_keys (cpy x :: r.map cpy)
      simp only [ON,SN,List.map_cons,List.length_cons,List.length_map] at L sx f1
      simp [bx] at L
      simp [El.av_eq,Call.operands,-s_round,hb,hs,L,sx,f1,f2]
  · obtain ⟨m,L⟩:=loopR K e h2 B (by omega)
    have ie:e.b.isEmpty=false:=by simpa using hb
    rw [ie]
    simp [b,lp,lps,c66,firstReg,AR,bx,ec] at L
    cases hs:e.s with
    | nil =>
      rw [hs] at L
      simp [OR,AR,El.avs] at L
      simp [El.av_eq,Call.operands,-s_round,hb,hs,El.avs,L,kb,cp1]
    | cons x r =>
      rw [hs] at L
      have sx:=fun n h key => E32.sealX_fl n h key (cpy x :: r.map cpy) none true false
      have f1:=El.fl_len (cpy x :: r.map cpy)
      have f2:=El.fl_keys (cpy x :: r.map cpy)
      simp only [OR,SR,List.map_cons,List.length_cons,List.length_map] at L sx f1
      simp [bx] at L
      simp [El.av_eq,Call.operands,-s_round,hb,hs,L,sx,f1,f2,kb,cp1]
end F61
end
section
open Ab Go TabE Sp FW
namespace F60
theorem op {run:RunF} {slot:Nat} {cs:List AV} {d l r l':Int} {own:Heap} (hp:AV.pureL cs=true)
    (hr:run 65 [.agg cs,.ptr (0,0,0) 0,.int .i64 d] [((0,0,0),bx [.int .i64 l])]=some (.ret (.int .i64 r),[((0,0,0),bx [.int .i64 l'])])) :
    opened [false,true,false] true run slot 65 [.agg cs,.ptr (0,0,0) 0,.int .i64 d] (((0,0,0),bx [.int .i64 l]) :: own)=some (.ret (.int .i64 r),((0,0,0),bx [.int .i64 l']) :: own):=by
  have e1:∀ h,sealM (sealA 20) [false,true,false] h [.agg cs,.ptr (0,0,0) 0,.int .i64 d]=some ([.agg cs,.ptr (0,0,0) 0,.int .i64 d],h):=fun h => by
    simp [sealM,sl_agg,sl_int,hp]
  have k1:AV.keysL cs=[]:=AV.keysL_pure _ hp
  have r1:∀ φ,AV.rnL φ cs=cs:=fun φ => rnL_pure cs hp
  unfold opened
  rw [e1]
  have e2:AV.keysL [.agg cs,.ptr (0,0,0) 0,.int .i64 d]=[(0,0,0)]:=by simp [AV.keysL,AV.keys,k1]
  simp only [e2]
  have e3:dd (reach (((0,0,0),bx [.int .i64 l]) :: own) 3 [(0,0,0)])=[(0,0,0)]:=by kernel_rfl
  rw [e3]
  unfold lendA
  have e4:lendH (((0,0,0),bx [.int .i64 l]) :: own) (inK [(0,0,0)]) [(0,0,0)]=some [((0,0,0),bx [.int .i64 l])]:=by kernel_rfl
  rw [e4]
  simp only [e2]
  rw [if_pos ⟨by kernel_rfl,by kernel_rfl⟩]
  have e5:AV.rnL (inK [(0,0,0)]) [.agg cs,.ptr (0,0,0) 0,.int .i64 d]=[.agg cs,.ptr (0,0,0) 0,.int .i64 d]:=by simp [AV.rnL,AV.rn,r1]; rfl
  rw [e5,hr]
  show backR [(0,0,0)] slot (((0,0,0),bx [.int .i64 l]) :: own) true (some (.ret (.int .i64 r),[((0,0,0),bx [.int .i64 l'])]))=some (.ret (.int .i64 r),((0,0,0),bx [.int .i64 l']) :: own)
  kernel_rfl
def b:Code:=lp c65 0
abbrev S (e:El) (d:Int) (i:Nat) (l:Int):St:=⟨[(1,.ptr (0,0,0) 0),(2,.int .i64 d),(3,.ptr (1,3,0) 0),(7,.int .i64 (i:Int))],[((0,0,0),bx [.int .i64 l]),((1,3,0),bx (ec e))]⟩
theorem go (q k1:Nat) (e x:El) (d:Int) (i:Nat) (l l' r:Int) (hr:r ≠ 0) (hx:e.s[i]? = some x) (le:e.s.length ≤ 1000) (d0:0 ≤ d) (d1:d ≤ 100)
    (R:∀ own slot,opened [false,true,false] true (aRun E q) slot 65 [.agg (ec x),.ptr (0,0,0) 0,.int .i64 (d + 1)] (((0,0,0),bx [.int .i64 l]) :: own)=some (.ret (.int .i64 r),((0,0,0),bx [.int .i64 l']) :: own)):rndO fn65 b q k1 (S e d i l)=some (.normal,S e d (i + 1) l'):=by
  have hi:i < e.s.length:=(List.getElem?_eq_some_iff.1 hx).1
  have ix:=El.at_ e.fs e.cs e.s i x hx
  have w:=w64' ((i:Int) + 1) (by omega) (by omega)
  have w2:=w64' (d + 1) (by omega) (by omega)
  simp [b,lp,lps,c65,-indexAddrA,ix,w,w2,hi,R,hr]
abbrev Out0 (l:Int):AExit × St:=(.ret,⟨[(6,.int .i64 0)],[((0,0,0),bx [.int .i64 l])]⟩)
theorem bad (q k1:Nat) (e x:El) (d:Int) (i:Nat) (l l':Int) (hx:e.s[i]? = some x) (le:e.s.length ≤ 1000) (d0:0 ≤ d) (d1:d ≤ 100)
    (R:∀ own slot,opened [false,true,false] true (aRun E q) slot 65 [.agg (ec x),.ptr (0,0,0) 0,.int .i64 (d + 1)] (((0,0,0),bx [.int .i64 l]) :: own)=some (.ret (.int .i64 0),((0,0,0),bx [.int .i64 l']) :: own)):rndO fn65 b q k1 (S e d i l)=some (Out0 l'):=by
  have hi:i < e.s.length:=(List.getElem?_eq_some_iff.1 hx).1
  have ix:=El.at_ e.fs e.cs e.s i x hx
  have w2:=w64' (d + 1) (by omega) (by omega)
  simp [b,lp,lps,c65,-indexAddrA,ix,w2,hi,R]
theorem last (q k1:Nat) (e:El) (d l:Int):rndO fn65 b q k1 (S e d e.s.length l)=some (.exit 0,⟨[(1,.ptr (0,0,0) 0),(2,.int .i64 d),(3,.ptr (1,3,0) 0),(7,.int .i64 (e.s.length:Int)),(38,.bool false)],(S e d e.s.length l).h⟩):=by
  simp [b,lp,lps,c65]
abbrev Lp (K:Nat):=aLoop (aCode E (site fn65 (aRun E K)) (dcall (aRun E K)) K 1 fn65 b) (cleanS 1 ((firstReg b).bind fn65.head))
def En (e:El) (d:Int) (p:Int × Int):AExit × St:=if p.1=0 then Out0 p.2 else (.exit 0,⟨[(1,.ptr (0,0,0) 0),(2,.int .i64 d),(3,.ptr (1,3,0) 0),(7,.int .i64 (e.s.length:Int)),(38,.bool false)],(S e d e.s.length p.2).h⟩)
abbrev Fc (K:Nat) (x:El):Prop:=∀ d l:Int,0 ≤ d → d ≤ 21 → -5 ≤ l → l ≤ 100000 → aRun E K 65 [.agg (ec x),.ptr (0,0,0) 0,.int .i64 d] [((0,0,0),bx [.int .i64 l])]=some (.ret (.int .i64 (few 200 60 x.core l d).1),[((0,0,0),bx [.int .i64 (few 200 60 x.core l d).2])])
theorem loop (K:Nat) (e:El) (le:e.s.length ≤ 1000) (d:Int) (d0:0 ≤ d) (d1:d ≤ 20) (R:∀ x ∈ e.s,Fc K x):∀ (r:List El) (i k:Nat) (l:Int),e.s.drop i=r → i ≤ e.s.length → 0 ≤ l → l ≤ 100000 → r.length < k →
    Lp K k (S e d i l)=some (En e d (fews 200 60 (El.cores r) l d))
  | [],i,k,l,h1,hi,l0,l1,hk => by
    obtain ⟨k,rfl⟩:∃ j,k=j + 1:=⟨k - 1,by omega⟩
    have q:=congrArg List.length h1
    rw [List.length_drop,List.length_nil] at q
    obtain rfl:i=e.s.length:=by omega
    exact aLoop_end (last K K e d l) (fun h => by cases h)
  | x :: r,i,k,l,h1,hi,l0,l1,hk => by
    obtain ⟨k,rfl⟩:∃ j,k=j + 1:=⟨k - 1,by omega⟩
    have q:=congrArg List.length h1
    rw [List.length_drop,List.length_cons] at q
    have hx:e.s[i]? = some x:=by
      have:=congrArg (fun l => l[0]?) h1
      simpa [List.getElem?_drop] using this
    have hd:e.s.drop (i + 1)=r:=by
      have:=congrArg List.tail h1
      simpa [List.tail_drop] using this
    have R':=R x (List.mem_of_getElem? hx) (d + 1) l (by omega) (by omega) (by omega) l1
    have O:=fun own slot => op (slot:=slot) (own:=own) (by rfl) R'
    have lo:=few_le x.core 200 60 l (d + 1)
    rw [El.cores]
    unfold fews
    by_cases h0:(few 200 60 x.core l (d + 1)).1=0
    · rw [if_pos h0]
      rw [h0] at O
      exact aLoop_end (bad K K e x d i l _ hx le d0 (by omega) O) (fun h => by cases h)
    · rw [if_neg h0]
      unfold Lp
      rw [aLoop_succ (go K K e x d i l _ _ h0 hx le d0 (by omega) O)]
      have lp':=few_ok x.core 200 60 l (d + 1) h0
      exact loop K e le d d0 d1 R r (i + 1) k _ hd (by omega) (by omega) (by omega) (by simp at hk; omega)
theorem few_con:∀ e:El,e.ok → ∃ N,∀ K,N ≤ K → Fc K e:=by
  refine El.ind fun e ih he => ?_
  obtain ⟨N,hN⟩:=unif (P:=fun (x:El) (n:Nat) => ∀ K,n ≤ K → Fc K x) (fun x n m h hm K hK => h K (by omega)) e.s (fun x hx => ih x hx (he.sub x hx))
  refine ⟨N + 60 + 60,fun K' hK' d l d0 d1 l0 l1 => ?_⟩
  obtain ⟨K,rfl⟩:∃ K,K'=K + 1:=⟨K' - 1,by omega⟩
  rw [aRun_fn rfl E_fn65 rfl (Nat.le_of_ble_eq_true rfl),body_65,c65]
  rw [El.core_eq e]
  unfold few
  have w:=w64' (l - 1) (by omega) (by omega)
  have lv:=El.avs_len e.s
  have bl:=bs_len e.b
  have cl:(El.cores e.s).length=e.s.length:=by rw [El.cores_map,List.length_map]
  rw [cl]
  by_cases h1:l - 1 < 0
  · rw [if_pos (.inl h1)]
    simp [-s_round,w,h1,lv,bl]
  by_cases h2:20 < d
  · rw [if_pos (.inr (.inl h2))]
    simp [-s_round,w,h1,h2,lv,bl]
  by_cases h3:200 < e.b.length
  · have h3':(200:Int) < e.b.length:=by omega
    rw [if_pos (.inr (.inr (.inl h3)))]
    simp [-s_round,w,h1,h2,h3,h3',lv,bl]
  by_cases h4:60 < e.s.length
  · have h4':(60:Int) < e.s.length:=by omega
    have h3':¬ (200:Int) < e.b.length:=by omega
    rw [if_pos (.inr (.inr (.inr h4)))]
    simp [-s_round,w,h1,h2,h3,h4,h3',h4',lv,bl]
  have h3':¬ (200:Int) < e.b.length:=by omega
  have h4':¬ (60:Int) < e.s.length:=by omega
  rw [if_neg (by rintro (h | h | h | h) <;> contradiction)]
  have L:=loop K e (by omega) d d0 (by omega) (fun x hx => hN x hx K (by omega)) e.s 0 K (l - 1) rfl (by omega) (by omega) (by omega) (by omega)
  simp [Lp,b,lp,lps,c65,firstReg,S,bx,ec] at L
  have pk:=fun h => (fews_ok (El.cores e.s) 200 60 (l - 1) d (by omega) (by omega) h).2.2.2
  generalize fews 200 60 (El.cores e.s) (l - 1) d=p at L pk ⊢
  obtain ⟨p1,p2⟩:=p
  simp only [En] at L
  by_cases hp:p1=0
  · rw [if_pos hp] at L
    subst hp
    simp [-s_round,w,h1,h2,h3,h4,h3',h4',lv,bl,L]
  · rw [if_neg hp] at L
    obtain rfl:=pk hp
    simp [-s_round,w,h1,h2,h3,h4,h3',h4',lv,bl,L,hp]
end F60
end
section
open Ab Go TabE Sp E34 F1 F4 F5 F31
namespace F34
theorem step_ok (e x:El) (n:Nat) (le:e.s.length ≤ 1000) (hx:e.s[n]? = some x):Con E 10 85 [e.av,.int .i64 n] (.tup [x.av,.bool true]):=by
  have hl:n < e.s.length:=(List.getElem?_eq_some_iff.1 hx).1
  have ix:=El.at_ e.fs e.cs e.s n x hx
  have n1:¬ ((n:Int) < 0):=by omega
  have n2:¬ ((e.s.length:Int) ≤ n):=by omega
  have n3:¬ (e.s.length ≤ n):=by omega
  have lv:=El.avs_len e.s
  refine con_of E_fn85 (by simp [AV.pureL,AV.pure,El.av_pure]) (Nat.le_of_ble_eq_true rfl) rfl rfl (g:=[]) ?_
  rw [body_85,c85,El.av_eq x]
  simp [El.av_eq e,-indexAddrA,ix,n1,n2,n3,lv,hl]
theorem step_bad (e:El) (p:Int) (h:p < 0 ∨ (e.s.length:Int) ≤ p):Con E 10 85 [e.av,.int .i64 p] (.tup [.agg z5,.bool false]):=by
  have lv:=El.avs_len e.s
  refine con_of E_fn85 (by simp [AV.pureL,AV.pure,El.av_pure]) (Nat.le_of_ble_eq_true rfl) rfl rfl (g:=[]) ?_
  rw [body_85,c85]
  by_cases h0:p < 0
  · simp [El.av_eq e,-indexAddrA,h0,lv]
  · have h1:(e.s.length:Int) ≤ p:=by omega
    simp [El.av_eq e,-indexAddrA,h0,h1,lv]
def bZ:Code:=lp c87 0
abbrev SZ (f:Bool) (s:List El) (c:Option Nat) (n:Int) (i:Nat):St:=⟨[(2,.int .i64 n),(7,.sl f (El.avs s) c),(8,.int .i64 (s.length:Int)),(9,.int .i64 (i:Int))],[]⟩
theorem zgo (q k1:Nat) (f s c) (n:Int) (i:Nat) (x:El) (ls:s.length ≤ 1000) (hx:s[i]? = some x) (n0:0 ≤ n) (n1:n ≤ 10000000) (lx:(enc x.core).length ≤ 1000000) (B:∀ h,aCall E q 0 21 [x.av] h=some (.ret (.tup [.sl false (bs (enc x.core)) (some (enc x.core).length),.int .i64 0]),h)):rnd fn87 bZ q k1 (SZ f s c n i)=some (.normal,SZ f s c (n + (enc x.core).length) (i + 1)):=by
  have hi:i < s.length:=(List.getElem?_eq_some_iff.1 hx).1
  have ix:=El.at_ f c s i x hx
  have w:=w64' ((i:Int) + 1) (by omega) (by omega)
  have w2:=w64' (n + (enc x.core).length) (by omega) (by omega)
  have lb:=bs_len (enc x.core)
  rw [El.av_eq] at B
  simp [bZ,lp,lps,c87,-indexAddrA,ix,w,w2,hi,B,lb]
theorem zlast (q k1:Nat) (f s c) (n:Int):rnd fn87 bZ q k1 (SZ f s c n s.length)=some (.exit 0,⟨[(2,.int .i64 n),(7,.sl f (El.avs s) c),(8,.int .i64 (s.length:Int)),(9,.int .i64 (s.length:Int)),(10,.bool false)],[]⟩):=by
  simp [bZ,lp,lps,c87]
abbrev LpZ (K:Nat):=aLoop (aCode E (aCall E K) (dcall (aRun E K)) K 1 fn87 bZ) (cleanS 1 ((firstReg bZ).bind fn87.head))
theorem zloop (K:Nat) (f s c) (ls:s.length ≤ 1000) (B:∀ x ∈ s,∀ h,aCall E K 0 21 [x.av] h=some (.ret (.tup [.sl false (bs (enc x.core)) (some (enc x.core).length),.int .i64 0]),h)):∀ (r:List El) (i k:Nat) (n:Int),s.drop i=r → i ≤ s.length → 0 ≤ n → n + (encs (El.cores r)).length ≤ 1000000 → r.length < k →
    LpZ K k (SZ f s c n i)=some (.exit 0,⟨[(2,.int .i64 (n + (encs (El.cores r)).length)),(7,.sl f (El.avs s) c),(8,.int .i64 (s.length:Int)),(9,.int .i64 (s.length:Int)),(10,.bool false)],[]⟩)
  | [],i,k,n,h1,hi,n0,hn,hk => by
    obtain ⟨k,rfl⟩:∃ j,k=j + 1:=⟨k - 1,by omega⟩
    have q:=congrArg List.length h1
    rw [List.length_drop,List.length_nil] at q
    obtain rfl:i=s.length:=by omega
    have h:=aLoop_end (k:=k) (zlast K K f s c n) (fun h => by cases h)
    simpa [El.cores,encs] using h
  | x :: r,i,k,n,h1,hi,n0,hn,hk => by
    obtain ⟨k,rfl⟩:∃ j,k=j + 1:=⟨k - 1,by omega⟩
    have hx:s[i]? = some x:=by
      have:=congrArg (fun l => l[0]?) h1
      simpa [List.getElem?_drop] using this
    have hd:s.drop (i + 1)=r:=by
      have:=congrArg List.tail h1
      simpa [List.tail_drop] using this
    have hl:i < s.length:=(List.getElem?_eq_some_iff.1 hx).1
    have e1:((encs (El.cores (x :: r))).length:Int)=(enc x.core).length + (encs (El.cores r)).length:=by
      rw [El.cores,encs,List.length_append]; omega
    rw [e1] at hn ⊢
    have h:=zloop K f s c ls B r (i + 1) k (n + (enc x.core).length) hd (by omega) (by omega) (by omega) (by simp at hk; omega)
    unfold LpZ at h ⊢
    rw [aLoop_succ (zgo K K f s c n i x ls hx n0 (by omega) (by omega) (B x (List.mem_of_getElem? hx))),h,Int.add_assoc]
theorem size (f s c) (ls:s.length ≤ 1000) (hl:(encs (El.cores s)).length ≤ 1000000) (N:Nat) (B:∀ x ∈ s,Con E N 21 [x.av] (.tup [.sl false (bs (enc x.core)) (some (enc x.core).length),.int .i64 0])):Con E (N + s.length + 20) 87 [.sl f (El.avs s) c] (.int .i64 ((encs (El.cores s)).length:Int)):=by
  obtain ⟨K,hK⟩:∃ K,N + s.length + 19=K:=⟨_,rfl⟩
  rw [show N + s.length + 20=K + 1 from by omega]
  have L:=zloop K f s c ls (fun x hx h => B x hx K (by omega) 0 h) s 0 K 0 rfl (by omega) (by omega) (by omega) (by omega)
  have pv:AV.pureL (El.avs s)=true:=El.avs_pure s
  refine con_of E_fn87 (by simp [AV.pureL,AV.pure,pv]) (Nat.le_of_ble_eq_true rfl) rfl rfl (g:=[]) ?_
  rw [body_87,c87]
  simp [LpZ,bZ,lp,lps,c87,firstReg,SZ] at L
  simp [-s_round,L]
end F34
end
section
open Ab Go TabE Sp E34 F1 F4 F5 F31 F43 F44 F45 F46
namespace F47
def bT:Code:=lp c62 0
abbrev ST (f:Bool) (ps:List Int) (c:Option Nat) (i:Nat) (x:El):St:=⟨[(2,.ptr (1,2,0) 0),(4,.ptr (1,4,0) 0),(9,.sl f (ns ps) c),(10,.int .i64 (ps.length:Int)),(11,.int .i64 (i:Int))],[((1,2,0),bx (ec x)),((1,4,0),bx z5)]⟩
theorem go (q k1:Nat) (f ps c) (i:Nat) (e x:El) (p:Int) (hp:ps[i]? = some p) (lp':ps.length ≤ 1000) (p0:0 ≤ p) (le:e.s.length ≤ 1000) (hx:e.s[p.toNat]? = some x) (hq:10 ≤ q):rndO fn62 bT q k1 (ST f ps c i e)=some (.normal,ST f ps c (i + 1) x):=by
  have hi:i < ps.length:=(List.getElem?_eq_some_iff.1 hp).1
  have ip:=int_at f c ps i p hp
  have pp:(p.toNat:Int)=p:=Int.toNat_of_nonneg p0
  have st:=F34.step_ok e x p.toNat le hx q hq 0
  rw [pp] at st
  have w:=w64' ((i:Int) + 1) (by omega) (by omega)
  have ln:=ns_len ps
  rw [El.av_eq e] at st
  rw [El.av_eq x] at st
  simp [bT,lp,lps,c62,-indexAddrA,ip,w,hi,ln,st]
abbrev BadT:AExit × St:=(.ret,⟨[(4,.ptr (1,4,0) 0),(5,.int .i64 19)],[((1,4,0),bx z5)]⟩)
theorem bad (q k1:Nat) (f ps c) (i:Nat) (e:El) (p:Int) (hp:ps[i]? = some p) (lp':ps.length ≤ 1000) (h:p < 0 ∨ (e.s.length:Int) ≤ p) (hq:10 ≤ q):rndO fn62 bT q k1 (ST f ps c i e)=some BadT:=by
  have hi:i < ps.length:=(List.getElem?_eq_some_iff.1 hp).1
  have ip:=int_at f c ps i p hp
  have st:=F34.step_bad e p h q hq 0
  have ln:=ns_len ps
  rw [El.av_eq e] at st
  simp [bT,lp,lps,c62,-indexAddrA,ip,hi,ln,st]
abbrev OutT (f:Bool) (ps:List Int) (c:Option Nat) (x:El):AExit × St:=(.exit 0,⟨[(2,.ptr (1,2,0) 0),(4,.ptr (1,4,0) 0),(9,.sl f (ns ps) c),(10,.int .i64 (ps.length:Int)),(11,.int .i64 (ps.length:Int)),(12,.bool false)],[((1,2,0),bx (ec x)),((1,4,0),bx z5)]⟩)
theorem last (q k1:Nat) (f ps c) (e:El):rndO fn62 bT q k1 (ST f ps c ps.length e)=some (OutT f ps c e):=by
  have ln:=ns_len ps
  simp [bT,lp,lps,c62,ln]
abbrev LpT (K:Nat):=aLoop (aCode E (site fn62 (aRun E K)) (dcall (aRun E K)) K 1 fn62 bT) (cleanS 1 ((firstReg bT).bind fn62.head))
def End (f:Bool) (ps:List Int) (c:Option Nat):Option El → AExit × St
  | some x => OutT f ps c x
  | none => BadT
inductive Wd:El → Prop
  | mk (e:El):e.s.length ≤ 1000 → (∀ x ∈ e.s,Wd x) → Wd e
theorem loop (K:Nat) (hK:10 ≤ K) (f:Bool) (ps:List Int) (c:Option Nat) (lp':ps.length ≤ 1000):∀ (r:List Int) (e:El) (i k:Nat),Wd e → ps.drop i=r → i ≤ ps.length → r.length < k →
    LpT K k (ST f ps c i e)=some (End f ps c (E34.walk e r))
  | [],e,i,k,wd,h1,hi,hk => by
    obtain ⟨k,rfl⟩:∃ j,k=j + 1:=⟨k - 1,by omega⟩
    have q:=congrArg List.length h1
    rw [List.length_drop,List.length_nil] at q
    obtain rfl:i=ps.length:=by omega
    have h:=aLoop_end (k:=k) (last K K f ps c e) (fun h => by cases h)
    unfold E34.walk End
    exact h
  | p :: r,e,i,k,wd,h1,hi,hk => by
    obtain ⟨k,rfl⟩:∃ j,k=j + 1:=⟨k - 1,by omega⟩
    obtain ⟨_,w1,w2⟩:=wd
    have hp:ps[i]? = some p:=by
      have:=congrArg (fun l => l[0]?) h1
      simpa [List.getElem?_drop] using this
    have hd:ps.drop (i + 1)=r:=by
      have:=congrArg List.tail h1
      simpa [List.tail_drop] using this
    have q:=congrArg List.length h1
    rw [List.length_drop,List.length_cons] at q
    unfold E34.walk
    by_cases h0:p < 0
    · rw [if_pos h0]
      exact aLoop_end (bad K K f ps c i e p hp lp' (.inl h0) hK) (fun h => by cases h)
    · rw [if_neg h0]
      cases hx:e.s[p.toNat]? with
      | none =>
        have:=List.getElem?_eq_none_iff.1 hx
        exact aLoop_end (bad K K f ps c i e p hp lp' (.inr (by omega)) hK) (fun h => by cases h)
      | some x =>
        unfold LpT
        rw [aLoop_succ (go K K f ps c i e x p hp lp' (by omega) w1 hx hK)]
        exact loop K hK f ps c lp' r x (i + 1) k (w2 x (List.mem_of_getElem? hx)) hd (by omega) (by simp at hk; omega)
theorem at_none (e:El) (wd:Wd e) (f:Bool) (ps:List Int) (c:Option Nat) (lp':ps.length ≤ 1000) (hw:E34.walk e ps=none):∃ N,Run E N 62 [e.av,.sl f (ns ps) c] [] (.ret (.tup [.agg z5,.int .i64 19])) [((1,4,0),bx z5)]:=by
  obtain ⟨K,hK⟩:∃ K,ps.length + 60=K:=⟨_,rfl⟩
  have L:=loop K (by omega) f ps c lp' ps e 0 K wd rfl (by omega) (by omega)
  rw [hw] at L
  have ln:=ns_len ps
  have key:aRun E (K + 1) 62 [e.av,.sl f (ns ps) c] []=some (.ret (.tup [.agg z5,.int .i64 19]),[((1,4,0),bx z5)]):=by
    rw [aRun_fn rfl E_fn62 rfl (Nat.le_of_ble_eq_true rfl),body_62,c62]
    simp [LpT,bT,lp,lps,c62,firstReg,ST,bx,ec,End] at L
    simp [El.av_eq,-s_round,L,ln]
  exact ⟨K + 1,fun q hq => aRun_le E (K + 1) q hq _ _ _ _ key⟩
theorem op_cloneN {e:El} {hf:Heap} {q:Nat} (hr:aRun E q 86 [e.av] []=some (.ret (CV e (.sl e.fb [] (some 0)) (1,14,0)),hf)) (h2:lookK hf (1,14,0)=some (er (e.s.map clo))) (m:List Bool) (slot:Nat) (h:Heap) :
    opened m false (aRun E q) slot 86 [e.av] h=some (.ret (CV e (.sl e.fb [] (some 0)) (1,slot,genOf h 1 slot)),setK h (1,slot,genOf h 1 slot) (er (e.s.map clo))):=by
  have k2:=El.fl_keys (e.s.map clo)
  have r2:∀ φ,AV.rnL φ (El.fl (e.s.map clo))=El.fl (e.s.map clo):=fun φ => rnL_pure _ (El.fl_pure _)
  rw [FO.op_fresh (m:=m) (slot:=slot) (h:=h) [(1,14,0)] (by simp [AV.pureL,El.av_pure]) hr (by simp [reach,h2,AV.keysL,AV.keys,dd,k2]) (by simp [closedH,h2,AV.keysL,AV.keys,k2]) (by simp) (by simp [AV.keysL,AV.keys,inKs])]
  simp [AV.rn,AV.rnL,outK,posK,putAll,h2,r2]
theorem op_cloneR {e:El} {hf:Heap} {q:Nat} {ex:Bool} (hr:aRun E q 86 [e.av] []=some (.ret (CV e (.ref (1,8,0) 0 e.b.length (some e.b.length)) (1,14,0)),hf)) (h1:lookK hf (1,8,0)=some (br e.b ex)) (h2:lookK hf (1,14,0)=some (er (e.s.map clo))) (m:List Bool) (slot:Nat) (h:Heap) :
    opened m false (aRun E q) slot 86 [e.av] h=some (.ret (CV e (.ref (1,slot,genOf h 1 slot) 0 e.b.length (some e.b.length)) (1,slot,genOf h 1 slot + 1)),setK (setK h (1,slot,genOf h 1 slot) (br e.b ex)) (1,slot,genOf h 1 slot + 1) (er (e.s.map clo))):=by
  have k1:=bs_kl e.b
  have k2:=El.fl_keys (e.s.map clo)
  have r1:∀ φ,AV.rnL φ (bs e.b)=bs e.b:=fun φ => rnL_pure _ (bs_pure _)
  have r2:∀ φ,AV.rnL φ (El.fl (e.s.map clo))=El.fl (e.s.map clo):=fun φ => rnL_pure _ (El.fl_pure _)
  rw [FO.op_fresh (m:=m) (slot:=slot) (h:=h) [(1,8,0),(1,14,0)] (by simp [AV.pureL,El.av_pure]) hr (by simp [reach,h1,h2,AV.keysL,AV.keys,dd,k1,k2]) (by simp [closedH,h1,h2,AV.keysL,AV.keys,k1,k2]) (by simp) (by simp [AV.keysL,AV.keys,inKs])]
  simp [AV.rn,AV.rnL,outK,posK,putAll,h1,h2,r1,r2]
theorem at_N (e x:El) (wd:Wd e) (nn:E31.Nn x) (sh:E33.Sh x) (hb:x.b=[]) (f:Bool) (ps:List Int) (c:Option Nat) (lp':ps.length ≤ 1000) (hw:E34.walk e ps=some x):∃ N h,Run E N 62 [e.av,.sl f (ns ps) c] [] (.ret (.tup [CV x (.sl x.fb [] (some 0)) (1,26,0),.int .i64 0])) h ∧ lookK h (1,26,0)=some (er (x.s.map clo)):=by
  obtain ⟨_,n1,n2,n3⟩:=nn
  obtain ⟨_,s1,s2,s3⟩:=sh
  obtain ⟨N,hN⟩:=unif (P:=fun (x:El) (n:Nat) => Con E n 86 [x.av] (clo x).av) (fun x n m h hm => h.mono hm) x.s (fun y hy => clone y (n3 y hy) (s3 y hy))
  obtain ⟨hh,q1,q3⟩:=nilC x hb s2 N hN
  obtain ⟨K,hK⟩:∃ K,N + x.s.length + ps.length + 90=K:=⟨_,rfl⟩
  have o:=op_cloneN (q1 K (by omega)) q3
  have L:=loop K (by omega) f ps c lp' ps e 0 K wd rfl (by omega) (by omega)
  rw [hw] at L
  have ln:=ns_len ps
  have k2:=El.fl_keys (x.s.map clo)
  rw [El.av_eq] at o
  have key:ret1 (1,26,0) (aRun E (K + 1) 62 [e.av,.sl f (ns ps) c] [])=some (.ret (.tup [CV x (.sl x.fb [] (some 0)) (1,26,0),.int .i64 0]),some (er (x.s.map clo))):=by
    rw [aRun_fn rfl E_fn62 rfl (Nat.le_of_ble_eq_true rfl),body_62,c62]
    simp [LpT,bT,lp,lps,c62,firstReg,ST,bx,ec,End] at L
    simp [El.av_eq,-s_round,L,ln,o,k2,ret1]
  obtain ⟨h,z1,z2⟩:=ret1_eq key
  exact ⟨K + 1,h,fun q hq => aRun_le E (K + 1) q hq _ _ _ _ z1,z2⟩
theorem at_R (e x:El) (wd:Wd e) (nn:E31.Nn x) (sh:E33.Sh x) (hf:x.fb=false) (hb:x.b ≠ []) (f:Bool) (ps:List Int) (c:Option Nat) (lp':ps.length ≤ 1000) (hw:E34.walk e ps=some x):∃ N h,Run E N 62 [e.av,.sl f (ns ps) c] [] (.ret (.tup [CV x (.ref (1,26,0) 0 x.b.length (some x.b.length)) (1,26,1),.int .i64 0])) h ∧ lookK h (1,26,0)=some (br x.b false) ∧ lookK h (1,26,1)=some (er (x.s.map clo)):=by
  obtain ⟨_,n1,n2,n3⟩:=nn
  obtain ⟨_,s1,s2,s3⟩:=sh
  obtain ⟨N,hN⟩:=unif (P:=fun (x:El) (n:Nat) => Con E n 86 [x.av] (clo x).av) (fun x n m h hm => h.mono hm) x.s (fun y hy => clone y (n3 y hy) (s3 y hy))
  obtain ⟨hh,q1,q2,q3⟩:=rowC x hf hb s1 s2 N hN
  obtain ⟨K,hK⟩:∃ K,N + x.s.length + ps.length + 90=K:=⟨_,rfl⟩
  have o:=op_cloneR (q1 K (by omega)) q2 q3
  have L:=loop K (by omega) f ps c lp' ps e 0 K wd rfl (by omega) (by omega)
  rw [hw] at L
  have ln:=ns_len ps
  have k1:=bs_kl x.b
  have k2:=El.fl_keys (x.s.map clo)
  rw [El.av_eq] at o
  have key:ret2 (1,26,0) (1,26,1) (aRun E (K + 1) 62 [e.av,.sl f (ns ps) c] [])=some (.ret (.tup [CV x (.ref (1,26,0) 0 x.b.length (some x.b.length)) (1,26,1),.int .i64 0]),some (br x.b false),some (er (x.s.map clo))):=by
    rw [aRun_fn rfl E_fn62 rfl (Nat.le_of_ble_eq_true rfl),body_62,c62]
    simp [LpT,bT,lp,lps,c62,firstReg,ST,bx,ec,End] at L
    simp [El.av_eq,-s_round,L,ln,o,k1,k2,ret2]
  obtain ⟨h,z1,z2,z3⟩:=ret2_eq key
  exact ⟨K + 1,h,fun q hq => aRun_le E (K + 1) q hq _ _ _ _ z1,z2,z3⟩
end F47
end
section
open Ab Go TabE Sp E34 F1 F4 F5 F31
namespace F35
def bO:Code:=lp c63 0
abbrev SO (f:Bool) (ps:List Int) (c:Option Nat) (i:Nat) (n:Int) (x:El):St:=⟨[(2,.ptr (1,2,0) 0),(8,.int .i64 n),(21,.sl f (ns ps) c),(22,.int .i64 (ps.length:Int)),(23,.int .i64 (i:Int))],[((1,2,0),bx (ec x))]⟩
theorem go (q k1:Nat) (f ps c) (i:Nat) (n:Int) (e x:El) (p:Nat) (hp:ps[i]? = some (p:Int)) (lp':ps.length ≤ 1000) (le:e.s.length ≤ 1000) (hx:e.s[p]? = some x) (n0:0 ≤ n) (n1:n ≤ 10000000) (A B:Int) (a0:0 ≤ A) (a1:A ≤ 1000000) (b0:0 ≤ B) (b1:B ≤ 1000000) (hq:10 ≤ q) (C1:∀ c h,aCall E q 0 87 [.sl false [e.av] c] h=some (.ret (.int .i64 A),h)) (C2:∀ f c h,aCall E q 0 87 [.sl f (El.avs (e.s.drop p)) c] h=some (.ret (.int .i64 B),h)):rnd fn63 bO q k1 (SO f ps c i n e)=some (.normal,SO f ps c (i + 1) (n + (A - B)) x):=by
  have hi:i < ps.length:=(List.getElem?_eq_some_iff.1 hp).1
  have hl:p < e.s.length:=(List.getElem?_eq_some_iff.1 hx).1
  have ip:=int_at f c ps i p hp
  have st:=F34.step_ok e x p le hx q hq 0
  have w:=w64' ((i:Int) + 1) (by omega) (by omega)
  have w2:=w64' (A - B) (by omega) (by omega)
  have w3:=w64' (n + (A - B)) (by omega) (by omega)
  have lv:=El.avs_len e.s
  have ln:=ns_len ps
  have hl2:p ≤ e.s.length:=by omega
  have gx:(El.avs e.s)[p]? = some x.av:=by rw [El.avs_map,List.getElem?_map,hx]; rfl
  have tk:List.take e.s.length (El.avs e.s)=El.avs e.s:=by rw [← El.avs_len e.s,List.take_length]
  have dr:List.drop p (El.avs e.s)=El.avs (e.s.drop p):=by rw [El.avs_map,El.avs_map,List.map_drop]
  rw [El.av_eq x] at gx
  have gx2:∀ h:p < (El.avs e.s).length,(El.avs e.s)[p]'h=.agg (ec x):=fun h => by rw [List.getElem?_eq_getElem h] at gx; exact Option.some.inj gx
  rw [El.av_eq e] at C1 st
  rw [El.av_eq x] at st
  simp [bO,lp,lps,c63,-indexAddrA,ip,w,w2,w3,hi,hl,lv,ln,st,C1,C2,hl2,gx,gx2,tk,dr]
abbrev BadO:AExit × St:=(.ret,⟨[(4,.int .i64 0),(5,.int .i64 19)],[]⟩)
theorem bad (q k1:Nat) (f ps c) (i:Nat) (n:Int) (e:El) (p:Int) (hp:ps[i]? = some p) (lp':ps.length ≤ 1000) (h:p < 0 ∨ (e.s.length:Int) ≤ p) (hq:10 ≤ q):rnd fn63 bO q k1 (SO f ps c i n e)=some BadO:=by
  have hi:i < ps.length:=(List.getElem?_eq_some_iff.1 hp).1
  have ip:=int_at f c ps i p hp
  have st:=F34.step_bad e p h q hq 0
  have ln:=ns_len ps
  rw [El.av_eq e] at st
  simp [bO,lp,lps,c63,-indexAddrA,ip,hi,ln,st]
theorem last (q k1:Nat) (f ps c) (n:Int) (e:El):rnd fn63 bO q k1 (SO f ps c ps.length n e)=some (.exit 0,⟨[(2,.ptr (1,2,0) 0),(8,.int .i64 n),(21,.sl f (ns ps) c),(22,.int .i64 (ps.length:Int)),(23,.int .i64 (ps.length:Int)),(24,.bool false)],[((1,2,0),bx (ec e))]⟩):=by
  have ln:=ns_len ps
  simp [bO,lp,lps,c63,ln]
end F35
end
end
section
open Ab Go TabE Sp E34 F1 F4 F5 F23 F31 F35
namespace F36
def ofs:El → List Int → Int
  | _,[] => 0
  | e,p :: r => (((enc e.core).length:Int) - (encs (El.cores (e.s.drop p.toNat))).length) + match e.s[p.toNat]? with
    | some x => ofs x r
    | none => 0
theorem put (e:El) (g:Gd e):∃ N,Con E N 21 [e.av] (.tup [.sl false (bs (enc e.core)) (some (enc e.core).length),.int .i64 0]):=E10.put_ok e g.ok g.sm g.chk (by have:=g.len; omega)
theorem drop_le (l:List El):∀ p,(encs (El.cores (l.drop p))).length ≤ (encs (El.cores l)).length:=by
  induction l with
  | nil => intro p; simp
  | cons x r ih =>
    intro p
    cases p with
    | zero => exact Nat.le_refl _
    | succ p =>
      have:=ih p
      rw [List.drop_succ_cons,El.cores,encs,List.length_append]; omega
theorem encs_le (e:El):(encs (El.cores e.s)).length ≤ (enc e.core).length:=by
  rw [enc_eq,List.length_append,List.length_append,List.length_append]; omega
theorem sizes (e:El) (g:Gd e) (p:Nat):∃ N,∀ K,N ≤ K → (∀ c h,aCall E K 0 87 [.sl false [e.av] c] h=some (.ret (.int .i64 ((enc e.core).length:Int)),h)) ∧ ∀ f c h,aCall E K 0 87 [.sl f (El.avs (e.s.drop p)) c] h=some (.ret (.int .i64 ((encs (El.cores (e.s.drop p))).length:Int)),h):=by
  obtain ⟨N1,h1⟩:=put e g
  obtain ⟨N2,h2⟩:=unif (P:=fun (x:El) (n:Nat) => Con E n 21 [x.av] (.tup [.sl false (bs (enc x.core)) (some (enc x.core).length),.int .i64 0])) (fun x n m h hm => h.mono hm) e.s (fun x hx => put x (g.sub hx))
  have l1:=g.len
  have l2:=drop_le e.s p
  have l3:=encs_le e
  have sl:=g.sl
  have ld:(e.s.drop p).length ≤ e.s.length:=by rw [List.length_drop]; omega
  refine ⟨N1 + N2 + 100,fun K hK => ⟨fun c h => ?_,fun f c h => ?_⟩⟩
  · have:=F34.size false [e] c (by simp) (by simp [El.cores,encs]; omega) N1 (fun x hx => by rw [List.mem_singleton.1 hx]; exact h1) K (by simp; omega) 0 h
    simpa [El.avs,El.cores,encs] using this
  · exact F34.size f (e.s.drop p) c (by omega) (by omega) N2 (fun x hx => h2 x (List.mem_of_mem_drop hx)) K (by omega) 0 h
end F36
end
