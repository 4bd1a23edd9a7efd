/- Own work, no conditions. -/
import Derived.Test.YtalmnhdnclmhbaaT42
import Derived.KernelRfl
import Derived.Test.YtalmnhdnclmhbaaB40
import Derived.Test.YtalmnhdnclmhbaaB38
import Derived.Test.YtalmnhdnclmhbaaTabBTie
set_option maxRecDepth 20000
set_option linter.unusedSimpArgs false
set_option linter.unusedVariables false
set_option maxHeartbeats 16000000
section
open Ab Go TabB
attribute [local simp ↓] s_seq s_reg s_regd s_cond s_block s_cons s_consG
attribute [local simp] s_nil s_loop s_round s_lpn s_lpe s_lpr firstReg s_gt s_gf s_wb s_wu s_val s_valN s_skip s_calls s_callP s_cax lookR flatR pureKs s_ret s_rgx s_sqn s_sqr s_sqe s_cdb s_bkn s_bkr s_bke s_exit s_ret' s_skip' s_finr s_finn s_fin1 s_fix s_clean s_gc0 o_tmp o_int o_bool o_nil o_str o_fn o_nil' l_hit l_miss l_nil ol_nil ol_cons ol_some x_move x_assign x_pick pk_t pk_f x_bin bn_s x_un x_extract x_callF cl_no x_callB x_callBF frzV x_conv cvx convA frame0 binA intOp resL resA results1 sealA sealLW AV.pure AV.pureL keepT x_alloc x_box bxx x_build bdx x_buildSlice bsx x_buildSliceF bsf x_load ldx x_store stx x_slice slx x_fieldAddr x_field x_index ixx x_indexAddr iax x_makeSlice msx x_nilCheck newK genOf setK lookK fillA writeL writeC readC conts TyI.mk1 sliceA boundsA boundsB fitsA numA indexAddrA fieldAddrA partA fieldA indexA appendA copyA builtinA AV.cells AV.scal chunk gcH reach keysT keepK inKs AV.keys AV.keysL Ty.isAgg eq1 eqL convA.go ltI w_u8 w_u32 w_u64 w_i64 w_fdiv w_tdiv w_tmod IntKind.bits unA
section
open Ab Go TabB T1 T2 T3 T7 T9 T10 T11 T12 T13 T34 T36
namespace T43
theorem get0 (f c) (z:Int) (ys:List Int) (hy:ys ≠ []) (hl:ys.length ≤ 65536) (hz:ys[ys.length - 1]? = some z) (hzb:0 ≤ z ∧ z < 256) :
    Con E 100 31 [.sl f (bs (0 :: ys)) c] (.tup [.sl false (bs ys) (some ys.length),.int .i64 (8 * (ys.length:Int)),.int .i64 0]):=by
  refine .of (g:=[]) (by simp [AV.pureL,AV.pure,bs_pure]) ?_
  rw [aCall_fn rfl (E_fn31) (by simp [AV.pureL,AV.pure,bs_pure]) (Nat.le_of_ble_eq_true rfl) rfl rfl,body_31,c31]
  have hy1:0 < ys.length:=List.length_pos_iff.2 hy
  have e0:((ys.length:Int) + 1 == 0)=false:=by simp; omega
  have e1:(0:Int) < (ys.length:Int) + 1:=by omega
  have e2:¬ (ys.length:Int) + 1=0:=by omega
  have e3:((ys.length:Int) + 1 == 1)=false:=by simp; omega
  have e4:¬ (ys.length:Int) + 1=1:=by omega
  have e5:(1:Int) < (ys.length:Int) + 1:=by omega
  have w1:=w64 (ys.length:Int) (by omega) (by omega)
  have w2:=w64 (8 * (ys.length:Int)) (by omega) (by omega)
  obtain ⟨y0,g0⟩:∃ y,(bs ys)[0]? = some (.int .u8 y):=⟨ys[0],by rw [bs_get]; simp [hy1]⟩
  have gl:((0:Int) :: ys)[ys.length]? = some z:=by
    obtain ⟨n,e⟩:∃ n,ys.length=n + 1:=⟨ys.length - 1,by omega⟩
    rw [e,List.getElem?_cons_succ,← hz]; congr 1; omega
  have ix:=at_ f c (0 :: ys) ys.length z gl
  have i0:=at_ f c (0 :: ys) 0 0 rfl
  simp only [bs_cons] at ix i0
  have i0':∀ hp,indexAddrA E 22 (.sl f (AV.int .u8 0 :: bs ys) c) (.int .i64 0) hp=some (.pel [.int .u8 0]):=i0
  have j1:=joined f true (c.map (fun q => q - 1)) (some 0) ys [] (by omega) (by decide)
  simp only [bs_nil,List.append_nil,List.length_nil,Nat.add_zero] at j1
  have am:=and8_mask z hzb.1 hzb.2 0 (by omega)
  rw [show (2:Int) ^ 0 - 1=0 from rfl,show z % 2 ^ 0=0 from Int.emod_one z] at am
  have e6:¬ 524288 < 8 * (ys.length:Int):=by omega
  simp [↓i_and,bs_all,hy,g0,bs_cons,bs_pure,bs_length,e0,e1,e2,e3,e4,e5,w1,w2,e6,-indexAddrA,ix,i0',am,j1,↓s_regD,s_dyn0,s_rgy,barOf]
theorem getL (f c) (z:Int) (ys:List Int) (hl:ys.length=65537) (hz:ys[65536]? = some z) (hzb:0 ≤ z ∧ z < 256) :
    Con E 100 31 [.sl f (bs (0 :: ys)) c] (.tup [.sl true [] (some 0),.int .i64 0,.int .i64 3]):=by
  refine .of (g:=[]) (by simp [AV.pureL,AV.pure,bs_pure]) ?_
  rw [aCall_fn rfl (E_fn31) (by simp [AV.pureL,AV.pure,bs_pure]) (Nat.le_of_ble_eq_true rfl) rfl rfl,body_31,c31]
  have gl:((0:Int) :: ys)[65537]? = some z:=by rw [List.getElem?_cons_succ]; exact hz
  have ix:∀ hp,indexAddrA E 22 (.sl f (AV.int .u8 0 :: bs ys) c) (.int .i64 65537) hp=some (.pel [.int .u8 z]):=at_ f c (0 :: ys) 65537 z gl
  have i0':∀ hp,indexAddrA E 22 (.sl f (AV.int .u8 0 :: bs ys) c) (.int .i64 0) hp=some (.pel [.int .u8 0]):=at_ f c (0 :: ys) 0 0 rfl
  have am:=and8_mask z hzb.1 hzb.2 0 (by omega)
  rw [show (2:Int) ^ 0 - 1=0 from rfl,show z % 2 ^ 0=0 from Int.emod_one z] at am
  have ln:=bs_length ys
  rw [hl] at ln
  simp [↓i_and,bs_all,bs_cons,bs_pure,ln,hl,-indexAddrA,ix,i0',am,↓s_regD,s_dyn0,s_rgy,barOf]
theorem put0 (f c) (z:Int) (ys:List Int) (hy:ys ≠ []) (hl:ys.length ≤ 65536) (hz:ys[ys.length - 1]? = some z) (hzb:0 ≤ z ∧ z < 256) :
    Con E 100 25 [.sl f (bs ys) c,.int .i64 (8 * (ys.length:Int))] (.tup [.sl false (bs (0 :: ys)) (some (ys.length + 1)),.int .i64 0]):=by
  refine .of (g:=[]) (by simp [AV.pureL,AV.pure,bs_pure]) ?_
  rw [aCall_fn rfl (E_fn25) (by simp [AV.pureL,AV.pure,bs_pure]) (Nat.le_of_ble_eq_true rfl) rfl rfl,body_25,c25]
  have hy1:0 < ys.length:=List.length_pos_iff.2 hy
  have k:=T34.low0 f c 0 z (8 * (ys.length:Int)) ys (by omega) (by omega) hy hl (by omega) hz hzb (by simp) (by omega)
  have u:=unused (8 * (ys.length:Int)) 0 (by omega) (by omega) (by omega)
  have e:1 + ys.length=ys.length + 1:=by omega
  have e2:[0] ++ ys=0 :: ys:=rfl
  have j':∀ f c,Con E 10 46 [.sl false [.int .u8 0] (some 1),.sl f (bs ys) c] (.sl false (bs (0 :: ys)) (some (ys.length + 1))):=fun f c => by
    have:=joined false f (some 1) c [0] ys (by simp) (by omega)
    rw [e2,List.length_singleton,e] at this
    exact this
  simp [bs_pure,k,u,j']
theorem gnL (f c) (z:Int) (ys:List Int) (hl:ys.length=65537) (hz:ys[65536]? = some 0):Con E 1000 48 [.sl f (bs (0 :: ys)) c] (.tup [.int .u64 0,.int .i64 11]):=by
  have G:=getL f c 0 ys hl hz (by omega)
  refine .of (g:=[]) (by simp [AV.pureL,AV.pure,bs_pure]) ?_
  rw [aCall_fn rfl (E_fn48) (by simp [AV.pureL,AV.pure,bs_pure]) (Nat.le_of_ble_eq_true rfl) rfl rfl,body_48,c48]
  have gl:((0:Int) :: ys)[65537]? = some 0:=by rw [List.getElem?_cons_succ]; exact hz
  have ix:∀ hp,indexAddrA E 22 (.sl f (AV.int .u8 0 :: bs ys) c) (.int .i64 65537) hp=some (.pel [.int .u8 0]):=at_ f c (0 :: ys) 65537 0 gl
  have i0':∀ hp,indexAddrA E 22 (.sl f (AV.int .u8 0 :: bs ys) c) (.int .i64 0) hp=some (.pel [.int .u8 0]):=at_ f c (0 :: ys) 0 0 rfl
  have ln:=bs_length ys
  rw [hl] at ln
  simp only [bs_cons] at G
  simp [bs_cons,bs_pure,ln,hl,-indexAddrA,ix,i0',G,-s_round]
def zs (n:Nat):List Int:=List.replicate n 0
theorem zs_len (n:Nat):(zs n).length=n:=List.length_replicate
theorem zs_B (n:Nat):isB (zs n):=fun x hx => by have:=List.eq_of_mem_replicate hx; omega
theorem zs_get (n i:Nat) (h:i < n):(zs n)[i]? = some 0:=by unfold zs; rw [List.getElem?_replicate,if_pos h]
theorem zs_succ (n:Nat):0 :: zs n=zs (n + 1):=by unfold zs; rw [List.replicate_succ]
theorem zs_bs (n:Nat):List.replicate n (AV.int .u8 0)=bs (zs n):=by unfold zs bs; rw [List.map_replicate]
theorem zs_take (n m:Nat) (h:n ≤ m):(zs m).take n=zs n:=by unfold zs; rw [List.take_replicate,Nat.min_eq_left h]
end T43
end
end
section
open Ab Go TabB
attribute [local simp ↓] s_seq s_reg s_regd s_cond s_block s_cons s_consG
attribute [local simp] s_nil s_loop s_round s_lpn s_lpe s_lpr firstReg s_gt s_gf s_wb s_wu s_val s_valN s_skip s_calls s_callP s_cax lookR flatR pureKs s_ret s_rgx s_sqn s_sqr s_sqe s_cdb s_bkn s_bkr s_bke s_exit s_ret' s_skip' s_finr s_finn s_fin1 s_fix s_clean s_gc0 o_tmp o_int o_bool o_nil o_str o_fn o_nil' l_hit l_miss l_nil ol_nil ol_cons ol_some x_move x_assign x_pick pk_t pk_f x_bin bn_s x_un x_extract x_callF cl_no x_callB x_callBF frzV x_conv cvx convA frame0 binA intOp resL resA results1 sealLW AV.pure AV.pureL keepT x_alloc x_box bxx x_build bdx x_buildSlice bsx x_buildSliceF bsf x_load ldx x_store stx x_slice slx x_fieldAddr x_field x_index ixx x_indexAddr iax x_makeSlice msx x_makeSliceF msf x_nilCheck newK genOf setK lookK fillA writeL writeC readC conts TyI.mk1 sliceA boundsA boundsB fitsA numA indexAddrA fieldAddrA partA fieldA indexA appendA copyA builtinA AV.cells chunk gcH reach keysT keepK inKs AV.keys AV.keysL Ty.isAgg eq1 eqL convA.go ltI w_u8 w_u32 w_u64 w_i64 w_fdiv w_tdiv w_tmod IntKind.bits unA sc_int sc_bool sc_str sc_sl sc_ref sc_ptr sc_pel sc_nilp sc_fn sc_nilf sc_if sc_nili sc_agg sc_tup sc_mem bs_pure bs_kl bs_length bs_cells bs_all sl_row sealRow sealY sl_int sl_bool sl_str sl_sl sl_nilp sl_nilf sl_nili sl_pel sl_agg sl_tup sl_fn sl_if nat_1 bs_cons bs_nil i_beq i_bne x_mkF x_mkI x_tassert x_panic s_pan s_sqp s_bkp s_finp s_fixp s_lpp s_rgp s_retp s_site s_stxN s_stxO x_callT clx
section
open Ab Go TabB T1 T2 T3 T7 T9 T10 T11 T12 T13 T34 T36 T43
namespace T44
theorem pureL_take:∀ (n:Nat) (l:List AV),AV.pureL l=true → AV.pureL (l.take n)=true
  | 0,l,h => rfl
  | n + 1,[],h => rfl
  | n + 1,x :: l,h => by
    have h':x.pure=true ∧ AV.pureL l=true:=by simpa [AV.pureL] using h
    simp [AV.pureL,h'.1,pureL_take n l h'.2]
theorem chunk_1:∀ (l:List AV),chunk false 1 l.length l=l
  | [] => rfl
  | x :: l => by simp [chunk,chunk_1 l]
def sealP (h:Heap) (key:Key) (len:Nat) (cap:Option Nat):Option (AV × Heap) :=
  match lookK h key with
  | some o => if o.live=true ∧ o.esz=1 ∧ o.eagg=false ∧ len ≤ o.cells.length ∧ AV.pureL o.cells=true then some (.sl false (o.cells.take len) cap,setK h key ⟨o.cells,o.live,false,o.exact,o.esz,o.eagg⟩) else none
  | none => none
def sealZ (n:Nat) (h:Heap) (v:AV):Option (AV × Heap):=sealA n h v
def sealYP:Option (AV × Heap) → Nat → Heap → AV → Option (AV × Heap)
  | some r,_,_,_ => some r
  | none,n,h,v => sealZ n h v
theorem sl_p (n:Nat) (h:Heap) (key:Key) (len:Nat) (cap:Option Nat):sealX (n + 2) h (.ref key 0 len cap)=sealYP (sealP h key len cap) (n + 2) h (.ref key 0 len cap):=by
  cases hr:sealP h key len cap with
  | none => rfl
  | some r =>
    unfold sealP at hr
    split at hr
    · rename_i o hk
      split at hr
      · rename_i hc
        obtain ⟨h1,h2,h3,h4,h5⟩:=hc
        cases hr
        simp only [sealYP]
        unfold sealX sealA
        have hp:(AV.ref key 0 len cap).pure=false:=rfl
        simp only [hp,Bool.false_eq_true,if_false,hk]
        rw [if_pos ⟨h1,by rw [h2]; omega,fun _ => h2⟩]
        simp only [h2,Nat.mul_one,List.drop_zero]
        have pp:=pureL_take len _ h5
        have ll:(o.cells.take len).length=len:=by rw [List.length_take]; omega
        rw [sealL_of_pure n _ _ pp]
        simp only [h3]
        have e:=chunk_1 (o.cells.take len)
        rw [ll] at e
        rw [e]
      · cases hr
    · cases hr
def b10:Code:=T35.lp c10 0
abbrev S (k:Nat):St:=⟨[(1,.int .i64 (k:Int))],[]⟩
theorem go (q k1:Nat) (k:Nat) (hk:k < 256) (G:∀ (f:Bool) (c:Option Nat) (cs:List Int),isB cs → ∀ h,aCall E q 0 8 [.sl f (bs cs) c] h=some (.ret (.bool true),h))
    (N:∀ w v:Int,0 ≤ w → w < 18446744073709551616 → 0 ≤ v → v < 256 → ∀ h,aCall E q 0 9 [.int .u64 w,.int .u8 v] h=some (.ret (.bool true),h)) :
    aCode E (aCall E q) (dcall (aRun E q)) k1 1 fn10 b10 (cleanS 1 ((firstReg b10).bind fn10.head) (S k))=some (.normal,S (k + 1)):=by
  obtain ⟨v,hv⟩:∃ v:Int,(k:Int)=v:=⟨_,rfl⟩
  have v0:0 ≤ v:=by omega
  have v1:v < 256:=by omega
  have e:((k + 1:Nat):Int)=v + 1:=by omega
  show aCode E (aCall E q) (dcall (aRun E q)) k1 1 fn10 b10 (cleanS 1 ((firstReg b10).bind fn10.head) ⟨[(1,.int .i64 (k:Int))],[]⟩)=some (.normal,⟨[(1,.int .i64 ((k + 1:Nat):Int))],[]⟩)
  rw [hv,e]
  have G1:∀ f c h,aCall E q 0 8 [.sl f [.int .u8 v] c] h=some (.ret (.bool true),h):=fun f c => G f c [v] (by intro x hx; simp at hx; omega)
  have G2:∀ f c h,aCall E q 0 8 [.sl f [.int .u8 v,.int .u8 128] c] h=some (.ret (.bool true),h):=fun f c => G f c [v,128] (by intro x hx; simp at hx; omega)
  have G3:∀ f c h,aCall E q 0 8 [.sl f [.int .u8 (v % 8),.int .u8 255,.int .u8 v] c] h=some (.ret (.bool true),h):=fun f c => G f c [v % 8,255,v] (by intro x hx; simp at hx; omega)
  have N1:=N (v * 72057594037927936) v (by omega) (by omega) v0 v1
  have m1:v % 256=v:=Int.emod_eq_of_lt v0 v1
  have t1:v.tmod 8=v % 8:=Int.tmod_eq_emod_of_nonneg v0
  have m2:v % 8 % 256=v % 8:=Int.emod_eq_of_lt (by omega) (by omega)
  have w1:=w_i64 (v % 8) (by omega) (by omega)
  have w2:=w_i64 (v + 1) (by omega) (by omega)
  have u1:v % 18446744073709551616=v:=Int.emod_eq_of_lt v0 (by omega)
  have u2:v * 72057594037927936 % 18446744073709551616=v * 72057594037927936:=Int.emod_eq_of_lt (by omega) (by omega)
  simp [b10,T35.lp,T35.lps,c10,v1,G1,G2,G3,N1,m1,t1,m2,w1,w2,u1,u2]
theorem fin (q k1:Nat):aCode E (aCall E q) (dcall (aRun E q)) k1 1 fn10 b10 (cleanS 1 ((firstReg b10).bind fn10.head) (S 256))=some (.exit 0,⟨[(1,.int .i64 256),(21,.bool false)],[]⟩):=by
  simp [b10,T35.lp,T35.lps,c10]
end T44
end
section
open Ab Go TabB T1 T2 T3 T7 T9 T10 T11 T12 T13 T34 T36 T43 T44
namespace T45
abbrev full:List AV:=[.int .u8 0,.int .u8 255,.int .u8 255,.int .u8 255,.int .u8 255,.int .u8 255,.int .u8 255,.int .u8 255,.int .u8 255]
abbrev ff:List AV:=[.int .u8 255,.int .u8 255,.int .u8 255,.int .u8 255,.int .u8 255,.int .u8 255,.int .u8 255,.int .u8 255]
theorem pnF:Con E 200 29 [.int .u64 18446744073709551615] (.sl false full (some 9)):=.of (g:=[]) rfl (by kernel_rfl)
theorem n1:Con E 300 28 [.sl false full (some 9),.int .u64 18446744073709551615,.int .i64 0] (.bool true):=.of (g:=[]) rfl (by kernel_rfl)
theorem n2:Con E 300 28 [.sl false (.int .u8 7 :: (ff ++ [.int .u8 128])) none,.int .u64 0,.int .i64 3] (.bool true):=.of (g:=[]) rfl (by kernel_rfl)
theorem n3:Con E 300 28 [.sl false (.int .u8 6 :: (ff ++ [.int .u8 128])) none,.int .u64 0,.int .i64 11] (.bool true):=.of (g:=[]) rfl (by kernel_rfl)
theorem main (K:Nat) (hK:1300 ≤ K) (Y Z:List Int) (hY:Y.length=65536) (hZ:Z.length=65537) (zz:List.replicate 65537 (AV.int .u8 0)=bs Z) (tk:(bs Z).take 65536=bs Y) (zy:AV.int .u8 0 :: bs Y=bs Z)
    (L:aLoop (aCode E (aCall E K) (dcall (aRun E K)) K 1 fn10 b10) (cleanS 1 ((firstReg b10).bind fn10.head)) K (S 0)=some (.exit 0,⟨[(1,.int .i64 256),(21,.bool false)],[]⟩))
    (P1:∀ f c h,aCall E K 0 25 [.sl f (bs Y) c,.int .i64 524288] h=some (.ret (.tup [.sl false (bs Z) (some 65537),.int .i64 0]),h))
    (P2:∀ f c h,aCall E K 0 25 [.sl f (bs Z) c,.int .i64 524289] h=some (.ret (.tup [.sl true [] (some 0),.int .i64 3]),h))
    (G1:∀ f c h,aCall E K 0 31 [.sl f (bs Z) c] h=some (.ret (.tup [.sl false (bs Y) (some 65536),.int .i64 524288,.int .i64 0]),h))
    (G3:∀ f c h,aCall E K 0 31 [.sl f (.int .u8 0 :: bs Z) c] h=some (.ret (.tup [.sl true [] (some 0),.int .i64 0,.int .i64 3]),h))
    (O1:∀ f c h,aCall E K 0 32 [.sl f (bs Y) c] h=some (.ret (.tup [.agg [.int .u8 0,.bool false,.int .u32 4,.sl false (bs Y) (some 65536),.sl true [] (some 0)],.int .i64 0]),h))
    (O2:∀ f c h,aCall E K 0 32 [.sl f (bs Z) c] h=some (.ret (.tup [zel,.int .i64 3]),h))
    (Q1:∀ fb cb fs cs h,aCall E K 0 33 [.agg [.int .u8 0,.bool false,.int .u32 4,.sl fb (bs Y) cb,.sl fs [] cs]] h=some (.ret (.tup [.sl false (bs Y) (some 65536),.int .i64 0]),h))
    (Q2:∀ fb cb fs cs h,aCall E K 0 33 [.agg [.int .u8 0,.bool false,.int .u32 4,.sl fb (bs Z) cb,.sl fs [] cs]] h=some (.ret (.tup [.sl true [] (some 0),.int .i64 3]),h))
    (N4:∀ f c h,aCall E K 0 28 [.sl f (.int .u8 0 :: bs Z) c,.int .u64 0,.int .i64 11] h=some (.ret (.bool true),h)) :
    Con E (K + 1) 10 [] (.bool true):=by
  have lv:=T24.lives K (by omega) 0
  have pf:=pnF K (by omega) 0
  have m1:=n1 K (by omega) 0
  have m2:=n2 K (by omega) 0
  have m3:=n3 K (by omega) 0
  simp only [full,ff,List.cons_append,List.nil_append] at pf m1 m2 m3
  have lZ:=bs_length Z
  have lY:=bs_length Y
  have pZ:=bs_pure Z
  have kZ:=bs_kl Z
  have pY:=bs_pure Y
  have kY:=bs_kl Y
  rw [hZ] at lZ
  rw [hY] at lY
  have tz:(bs Z).take 65537=bs Z:=List.take_of_length_le (by omega)
  refine .of (g:=[]) rfl ?_
  rw [aCall_fn rfl (E_fn10) rfl (Nat.le_of_ble_eq_true rfl) rfl rfl,body_10,c10]
  simp [b10,T35.lp,T35.lps,c10,firstReg,T44.S] at L
  simp [-s_round,-List.reduceReplicate,-chunk,L,zz,lZ,lY,pZ,kZ,pY,kY,hY,hZ,tk,tz,zy,P1,P2,G1,G3,O1,O2,Q1,Q2,N4,lv,pf,m1,m2,m3,sl_p,sealP,sealYP,fitZ]
end T45
end
end
section
open Ab Go TabB T1 T2 T3 T7 T9 T10 T11 T12 T13 T34 T36 T43 T44 T45
namespace T46
theorem law:Con E 1301 10 [] (.bool true):=by
  have lY:=zs_len 65536
  have lZ:=zs_len 65537
  have yz:0 :: zs 65536=zs 65537:=zs_succ 65536
  have bY:isB (zs 65536):=zs_B 65536
  have bZ:isB (zs 65537):=zs_B 65537
  have gY:(zs 65536)[65535]? = some 0:=zs_get 65536 65535 (by omega)
  have gZ:(zs 65537)[65536]? = some 0:=zs_get 65537 65536 (by omega)
  have zz:=zs_bs 65537
  have tk:(bs (zs 65537)).take 65536=bs (zs 65536):=by unfold bs; rw [← List.map_take,zs_take 65536 65537 (by omega)]
  generalize zs 65536=Y at *
  generalize zs 65537=Z at *
  have zy:AV.int .u8 0 :: bs Y=bs Z:=by rw [← yz]; rfl
  have nY:Y ≠ []:=by intro e; rw [e] at lY; cases lY
  have gY':Y[Y.length - 1]? = some 0:=by rw [lY]; exact gY
  have P1:=fun f c => put0 f c 0 Y nY (by omega) gY' (by omega)
  have G1:=fun f c => get0 f c 0 Y nY (by omega) gY' (by omega)
  rw [yz,lY] at P1 G1
  have P2:=fun f c => put_err f c Z 524289 3 (by omega) (T34.big f c 524289 Z (by omega))
  have G3:=fun f c => getL f c 0 Z lZ gZ (by omega)
  have O1:=fun f c => octets f c Y (by omega)
  have O2:=fun f c => octets_big f c Z (by omega)
  have Q1:=fun fb cb fs cs => oct_ok (c:=0) (k:=false) (n:=4) (fb:=fb) (b:=Y) (cb:=cb) (fs:=fs) (cs:=cs) ⟨rfl,rfl,rfl⟩ (by omega)
  have Q2:=fun fb cb fs cs => oct_big (c:=0) (k:=false) (n:=4) (fb:=fb) (b:=Z) (cb:=cb) (fs:=fs) (cs:=cs) ⟨rfl,rfl,rfl⟩ (by omega)
  have N4:=fun f c => T24.named f c (0 :: Z) 0 11 (gnL f c 0 Z lZ gZ)
  rw [lY] at O1 Q1
  have L:aLoop (aCode E (aCall E 1300) (dcall (aRun E 1300)) 1300 1 fn10 b10) (cleanS 1 ((firstReg b10).bind fn10.head)) 1300 (S 0)=some (.exit 0,⟨[(1,.int .i64 256),(21,.bool false)],[]⟩) :=
    loopR (fun k => S k) 256 rfl (fun k hk => go 1300 1300 k hk (fun f c cs h => T26.law f c cs h 1300 (by omega) 0) (fun w v w0 w1 v0 v1 => T31.law w v w0 w1 v0 v1 1300 (by omega) 0)) (fin 1300 1300) (by simp) (by omega)
  exact main 1300 (by omega) Y Z lY lZ zz tk zy L (fun f c => P1 f c 1300 (by omega) 0) (fun f c => P2 f c 1300 (by omega) 0) (fun f c => G1 f c 1300 (by omega) 0) (fun f c => G3 f c 1300 (by omega) 0) (fun f c => O1 f c 1300 (by omega) 0) (fun f c => O2 f c 1300 (by omega) 0) (fun fb cb fs cs => Q1 fb cb fs cs 1300 (by omega) 0) (fun fb cb fs cs => Q2 fb cb fs cs 1300 (by omega) 0) (fun f c => N4 f c 1300 (by omega) 0)
end T46
end
section
open Ab Go TabB T36
namespace L37
theorem el_ {n:Nat} {a:AV} (sh:Shp Go.Proofs.Try.prog n 59 a.cells) (sa:a.scal = !aggTy Go.Proofs.Try.prog 59) (nt:∀ x,a ≠ .tup x):∃ (c:Int) (k:Bool) (m:Int) (f2:Bool) (b2:List Int) (c2:Option Nat) (fs:Bool) (ss:List AV) (cs:Option Nat),a=el c k m f2 b2 c2 fs ss cs ∧ isB b2:=by
  have sa:a.scal=false:=by rw [sa]; unfold aggTy; rw [Go.Proofs.Try.underlying59]; rfl
  obtain ⟨m,rfl,hl,hf⟩:=sh.strct Go.Proofs.Try.underlying59
  have c5:Go.Proofs.Try.prog.cellsOf 59=5:=by kernel_rfl
  have c3:Go.Proofs.Try.prog.cellsOf 56=3:=by kernel_rfl
  have cb:Go.Proofs.Try.prog.cellsOf 22=1:=by kernel_rfl
  have ce:Go.Proofs.Try.prog.cellsOf 57=1:=by kernel_rfl
  have cc:Go.Proofs.Try.prog.cellsOf 54=1:=by kernel_rfl
  have co:Go.Proofs.Try.prog.cellsOf 4=1:=by kernel_rfl
  have cu:Go.Proofs.Try.prog.cellsOf 31=1:=by kernel_rfl
  rw [c5] at hl
  obtain ⟨cs,rfl⟩:∃ cs,a=.agg cs:=by
    cases a <;> first | exact ⟨_,rfl⟩ | (exfalso; simp [AV.scal] at sa; done) | exact absurd rfl (nt _)
  obtain ⟨x1,x2,x3,x4,x5,rfl⟩:∃ x1 x2 x3 x4 x5,cs=[x1,x2,x3,x4,x5]:=by
    simp only [AV.cells] at hl
    rcases cs with _ | ⟨x1,_ | ⟨x2,_ | ⟨x3,_ | ⟨x4,_ | ⟨x5,_ | ⟨x6,r⟩⟩⟩⟩⟩⟩ <;> simp at hl
    exact ⟨_,_,_,_,_,rfl⟩
  simp [AV.cells,c3,cb,ce] at hf
  obtain ⟨hf1,hf2,hf3⟩:=hf
  obtain ⟨q,rfl,_,ht⟩:=hf1.strct Go.Proofs.Try.underlying56
  simp [cc,co,cu] at ht
  obtain ⟨ht1,ht2,ht3⟩:=ht
  obtain ⟨c,e1,c0,c1⟩:=ht1.int Go.Proofs.Try.underlying54
  obtain ⟨k,e2⟩:=ht2.bool Go.Proofs.Try.underlying4
  obtain ⟨n,e3,n0,n1⟩:=ht3.int Go.Proofs.Try.underlying31
  obtain ⟨fb,b,e4,lb,hb⟩:=hf2.bytes Go.Proofs.Try.underlying22 Go.Proofs.Try.underlying5
  obtain ⟨m',fs,xs,e6,e5,lx,hx⟩:=hf3.slice Go.Proofs.Try.underlying57
  obtain rfl:x1=_:=by simpa using e1
  obtain rfl:x2=_:=by simpa using e2
  obtain rfl:x3=_:=by simpa using e3
  obtain rfl:x4=_:=by simpa using e4
  obtain rfl:x5=_:=by simpa using e5
  exact ⟨c,k,n,fb,b,_,fs,xs,_,rfl,hb⟩
theorem law {n0 n1 n2:Nat} {a0 a1 a2:AV} (h0:Shp Go.Proofs.Try.prog n0 22 a0.cells) (s0:a0.scal = !aggTy Go.Proofs.Try.prog 22) (t0:∀ x,a0 ≠ .tup x) (h1:Shp Go.Proofs.Try.prog n1 3 a1.cells) (s1:a1.scal = !aggTy Go.Proofs.Try.prog 3) (t1:∀ x,a1 ≠ .tup x) (h2:Shp Go.Proofs.Try.prog n2 59 a2.cells) (s2:a2.scal = !aggTy Go.Proofs.Try.prog 59) (t2:∀ x,a2 ≠ .tup x) :
    ∃ N,Con E N 12 [a0,a1,a2] (.bool true):=by
  obtain ⟨f,b,e0,_,hb⟩:=h0.bytes Go.Proofs.Try.underlying22 Go.Proofs.Try.underlying5
  obtain rfl:=cells_one e0 (by rw [s0]; unfold aggTy; rw [Go.Proofs.Try.underlying22]; rfl)
  obtain ⟨n,e1,_,_⟩:=h1.int Go.Proofs.Try.underlying3
  obtain rfl:=cells_one e1 (by rw [s1]; unfold aggTy; rw [Go.Proofs.Try.underlying3]; rfl)
  obtain ⟨c,k,m,f2,b2,c2,fs,ss,cs,rfl,hb2⟩:=el_ h2 s2 t2
  exact ⟨1200,T37.law hb hb2⟩
end L37
end
section
open Ab Go TabB
namespace L42
theorem bits_ {n:Nat} {a:AV} (sh:Shp Go.Proofs.Try.prog n 64 a.cells) (sa:a.scal = !aggTy Go.Proofs.Try.prog 64) (nt:∀ x,a ≠ .tup x):∃ (f:Bool) (cs:List Int),a=.agg [.sl f (bs cs) none] ∧ isB cs:=by
  have sa:a.scal=false:=by rw [sa]; unfold aggTy; rw [Go.Proofs.Try.underlying64]; rfl
  obtain ⟨m,rfl,hl,hf⟩:=sh.strct Go.Proofs.Try.underlying64
  have c1:Go.Proofs.Try.prog.cellsOf 64=1:=by kernel_rfl
  have c2:Go.Proofs.Try.prog.cellsOf 22=1:=by kernel_rfl
  rw [c1] at hl
  obtain ⟨cs,rfl⟩:∃ cs,a=.agg cs:=by
    cases a <;> first | exact ⟨_,rfl⟩ | (exfalso; simp [AV.scal] at sa; done) | exact absurd rfl (nt _)
  obtain ⟨x1,rfl⟩:∃ x1,cs=[x1]:=List.length_eq_one_iff.1 hl
  simp [AV.cells,c2] at hf
  obtain ⟨f,b,e5,_,hb⟩:=hf.bytes Go.Proofs.Try.underlying22 Go.Proofs.Try.underlying5
  obtain rfl:x1=_:=by simpa using e5
  exact ⟨f,b,rfl,hb⟩
theorem law {n0 n1:Nat} {a0 a1:AV} (h0:Shp Go.Proofs.Try.prog n0 64 a0.cells) (s0:a0.scal = !aggTy Go.Proofs.Try.prog 64) (t0:∀ x,a0 ≠ .tup x) (h1:Shp Go.Proofs.Try.prog n1 3 a1.cells) (s1:a1.scal = !aggTy Go.Proofs.Try.prog 3) (t1:∀ x,a1 ≠ .tup x) :
    ∃ N,Con E N 11 [a0,a1] (.bool true):=by
  obtain ⟨f,b,rfl,hb⟩:=bits_ h0 s0 t0
  obtain ⟨n,e1,_,_⟩:=h1.int Go.Proofs.Try.underlying3
  obtain rfl:=cells_one e1 (by rw [s1]; unfold aggTy; rw [Go.Proofs.Try.underlying3]; rfl)
  exact ⟨1200,T42.law f none b hb n⟩
end L42
end
section
open Ab Go TabB
namespace L46
theorem law:∃ N,Con E N 10 [] (.bool true):=⟨1301,T46.law⟩
end L46
end
