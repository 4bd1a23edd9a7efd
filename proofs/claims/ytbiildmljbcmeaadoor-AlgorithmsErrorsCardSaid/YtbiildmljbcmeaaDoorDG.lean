/- Own work, no conditions. -/
import Derived.Test.YtbiildmljbcmeaaDoorF23
import Derived.Test.YtbiildmljbcmeaaDoorSq
import Derived.Test.YtbiildmljbcmeaaDoorB40e
import Derived.Test.YtbiildmljbcmeaaDoorQ22
import Derived.Test.YtbiildmljbcmeaaDoorF44
set_option maxRecDepth 20000
set_option linter.unusedSimpArgs false
set_option linter.unusedVariables false
set_option maxHeartbeats 16000000
section
open Ab Go TabE
attribute [local simp ↓] s_seq s_reg s_regd s_cond s_block s_cons s_consG
attribute [local simp] s_nil s_loop s_round s_lpn s_lpe s_lpr firstReg s_gt s_gf s_wb s_wu s_val s_valN s_skip s_calls s_callP s_cax lookR flatR pureKs s_ret s_rgx s_sqn s_sqr s_sqe s_cdb s_bkn s_bkr s_bke s_exit s_ret' s_skip' s_finr s_finn s_fin1 s_fix s_clean s_gc0 o_tmp o_int o_bool o_nil o_str o_fn o_nil' l_hit l_miss l_nil ol_nil ol_cons ol_some x_move x_assign x_pick pk_t pk_f x_bin bn_s x_un x_extract x_callF cl_no x_callB x_callBF frzV x_conv cvx convA frame0 binA intOp resL resA results1 sealLW AV.pure AV.pureL keepT x_alloc x_box bxx x_build bdx x_buildSlice bsx x_buildSliceF bsf x_load ldx x_store stx x_slice slx x_fieldAddr x_field x_index ixx x_indexAddr iax x_makeSlice msx x_makeSliceF msf x_nilCheck newK genOf setK lookK fillA writeL writeC readC conts TyI.mk1 sliceA boundsA boundsB fitsA numA indexAddrA fieldAddrA partA fieldA indexA appendA copyA builtinA AV.cells chunk gcH reach keysT keepK inKs AV.keys AV.keysL Ty.isAgg eq1 eqL convA.go ltI w_u8 w_u32 w_u64 w_i64 w_fdiv w_tdiv w_tmod IntKind.bits unA sc_int sc_bool sc_str sc_sl sc_ref sc_ptr sc_pel sc_nilp sc_fn sc_nilf sc_if sc_nili sc_agg sc_tup sc_mem bs_pure bs_kl bs_length bs_cells bs_all sl_row sealRow sealY sl_int sl_bool sl_str sl_sl sl_nilp sl_nilf sl_nili sl_pel sl_agg sl_tup sl_fn sl_if nat_1 bs_cons bs_nil i_beq i_bne x_mkF x_mkI x_tassert x_panic s_pan s_sqp s_bkp s_finp s_fixp s_lpp s_rgp s_retp s_site s_stxN s_stxO x_callT clx El.avs_len
section
open Ab Go TabE Sp
namespace B0h
theorem grp_len (v:Int):1 ≤ (OG.grp v).length ∧ (OG.grp v).length ≤ 5:=by
  unfold OG.grp
  split <;> simp
end B0h
end
section
open Ab Go TabE Sp
namespace DG
open F44
theorem dig1_ (v:Int) (h0:0 ≤ v) (h1:v < 128):ret1 (1,7,0) (aRun E 20 112 [.int .u32 v] [])=some (.ret (.ref (1,7,0) 0 1 (some 1)),some ⟨[.int .u8 (TG.oct v 0)],true,true,true,1,false⟩):=by
  rw [aRun_fn rfl E_fn112 rfl (Nat.le_of_ble_eq_true rfl),body_112,c112]
  have q1:v.tmod 128=v:=by rw [Int.tmod_eq_emod_of_nonneg h0]; omega
  have q2:v.tdiv 128=0:=by rw [Int.tdiv_eq_ediv_of_nonneg h0]; omega
  have q3:v % 256=v:=by omega
  have o:TG.oct v 0=v:=by unfold TG.oct; simp; omega
  simp [ret1,q1,q2,q3,o,w_i64]
theorem dig2_ (v:Int) (h0:128 ≤ v) (h1:v < 16384):ret1 (1,20,0) (aRun E 20 112 [.int .u32 v] [])=some (.ret (.ref (1,20,0) 0 2 none),some ⟨[.int .u8 (TG.oct v 1),.int .u8 (TG.oct v 0)],true,true,false,1,false⟩):=by
  rw [aRun_fn rfl E_fn112 rfl (Nat.le_of_ble_eq_true rfl),body_112,c112]
  have q1:v.tmod 128=v % 128:=Int.tmod_eq_emod_of_nonneg (by omega)
  have q2:v.tdiv 128=v / 128:=Int.tdiv_eq_ediv_of_nonneg (by omega)
  have q3:v % 128 % 256=v % 128:=by omega
  have a1:0 < v / 128:=by omega
  have m1:v / 128 % 4294967296=v / 128:=by omega
  have q4:(v / 128).tmod 128=v / 128:=by rw [Int.tmod_eq_emod_of_nonneg (by omega)]; omega
  have q5:(v / 128).tdiv 128=0:=by rw [Int.tdiv_eq_ediv_of_nonneg (by omega)]; omega
  have m2:(128 + v / 128) % 4294967296=128 + v / 128:=by omega
  have q6:(128 + v / 128) % 256=128 + v / 128:=by omega
  have o0:TG.oct v 0=v % 128:=by unfold TG.oct; simp
  have o1:TG.oct v 1=128 + v / 128:=by unfold TG.oct; simp; omega
  simp [ret1,q1,q2,q3,a1,m1,m2,q4,q5,q6,o0,o1,w_i64]
theorem dig3_ (v:Int) (h0:16384 ≤ v) (h1:v < 2097152):ret1 (1,20,1) (aRun E 20 112 [.int .u32 v] [])=some (.ret (.ref (1,20,1) 0 3 none),some ⟨[.int .u8 (TG.oct v 2),.int .u8 (TG.oct v 1),.int .u8 (TG.oct v 0)],true,true,false,1,false⟩):=by
  rw [aRun_fn rfl E_fn112 rfl (Nat.le_of_ble_eq_true rfl),body_112,c112]
  have q1:v.tmod 128=v % 128:=Int.tmod_eq_emod_of_nonneg (by omega)
  have q2:v.tdiv 128=v / 128:=Int.tdiv_eq_ediv_of_nonneg (by omega)
  have q3:v % 128 % 256=v % 128:=by omega
  have a1:0 < v / 128:=by omega
  have m1:v / 128 % 4294967296=v / 128:=by omega
  have q4:(v / 128).tmod 128=v / 128 % 128:=Int.tmod_eq_emod_of_nonneg (by omega)
  have q5:(v / 128).tdiv 128=v / 16384:=by rw [Int.tdiv_eq_ediv_of_nonneg (by omega)]; omega
  have a2:0 < v / 16384:=by omega
  have m3:v / 16384 % 4294967296=v / 16384:=by omega
  have q7:(v / 16384).tmod 128=v / 16384:=by rw [Int.tmod_eq_emod_of_nonneg (by omega)]; omega
  have q8:(v / 16384).tdiv 128=0:=by rw [Int.tdiv_eq_ediv_of_nonneg (by omega)]; omega
  have m2:(128 + v / 128 % 128) % 4294967296=128 + v / 128 % 128:=by omega
  have m4:(128 + v / 16384) % 4294967296=128 + v / 16384:=by omega
  have q6:(128 + v / 128 % 128) % 256=128 + v / 128 % 128:=by omega
  have q9:(128 + v / 16384) % 256=128 + v / 16384:=by omega
  have o0:TG.oct v 0=v % 128:=by unfold TG.oct; simp
  have o1:TG.oct v 1=128 + v / 128 % 128:=by unfold TG.oct; simp; omega
  have o2:TG.oct v 2=128 + v / 16384:=by unfold TG.oct; simp; omega
  simp [ret1,q1,q2,q3,a1,a2,m1,m2,m3,m4,q4,q5,q7,q8,q6,q9,o0,o1,o2,w_i64]
theorem dig4_ (v:Int) (h0:2097152 ≤ v) (h1:v < 268435456):ret1 (1,20,2) (aRun E 20 112 [.int .u32 v] [])=some (.ret (.ref (1,20,2) 0 4 none),some ⟨[.int .u8 (TG.oct v 3),.int .u8 (TG.oct v 2),.int .u8 (TG.oct v 1),.int .u8 (TG.oct v 0)],true,true,false,1,false⟩):=by
  rw [aRun_fn rfl E_fn112 rfl (Nat.le_of_ble_eq_true rfl),body_112,c112]
  have q1:v.tmod 128=v % 128:=Int.tmod_eq_emod_of_nonneg (by omega)
  have q2:v.tdiv 128=v / 128:=Int.tdiv_eq_ediv_of_nonneg (by omega)
  have q3:v % 128 % 256=v % 128:=by omega
  have a1:0 < v / 128:=by omega
  have m1:v / 128 % 4294967296=v / 128:=by omega
  have q4:(v / 128).tmod 128=v / 128 % 128:=Int.tmod_eq_emod_of_nonneg (by omega)
  have q5:(v / 128).tdiv 128=v / 16384:=by rw [Int.tdiv_eq_ediv_of_nonneg (by omega)]; omega
  have a2:0 < v / 16384:=by omega
  have m3:v / 16384 % 4294967296=v / 16384:=by omega
  have q7:(v / 16384).tmod 128=v / 16384 % 128:=Int.tmod_eq_emod_of_nonneg (by omega)
  have q8:(v / 16384).tdiv 128=v / 2097152:=by rw [Int.tdiv_eq_ediv_of_nonneg (by omega)]; omega
  have a3:0 < v / 2097152:=by omega
  have m5:v / 2097152 % 4294967296=v / 2097152:=by omega
  have p7:(v / 2097152).tmod 128=v / 2097152:=by rw [Int.tmod_eq_emod_of_nonneg (by omega)]; omega
  have p8:(v / 2097152).tdiv 128=0:=by rw [Int.tdiv_eq_ediv_of_nonneg (by omega)]; omega
  have m2:(128 + v / 128 % 128) % 4294967296=128 + v / 128 % 128:=by omega
  have m4:(128 + v / 16384 % 128) % 4294967296=128 + v / 16384 % 128:=by omega
  have m6:(128 + v / 2097152) % 4294967296=128 + v / 2097152:=by omega
  have q6:(128 + v / 128 % 128) % 256=128 + v / 128 % 128:=by omega
  have q9:(128 + v / 16384 % 128) % 256=128 + v / 16384 % 128:=by omega
  have p9:(128 + v / 2097152) % 256=128 + v / 2097152:=by omega
  have o0:TG.oct v 0=v % 128:=by unfold TG.oct; simp
  have o1:TG.oct v 1=128 + v / 128 % 128:=by unfold TG.oct; simp; omega
  have o2:TG.oct v 2=128 + v / 16384 % 128:=by unfold TG.oct; simp; omega
  have o3:TG.oct v 3=128 + v / 2097152:=by unfold TG.oct; simp; omega
  simp [ret1,q1,q2,q3,a1,a2,a3,m1,m2,m3,m4,m5,m6,q4,q5,q7,q8,q6,q9,p7,p8,p9,o0,o1,o2,o3,w_i64]
theorem dig5_ (v:Int) (h0:268435456 ≤ v) (h1:v < 4294967296):ret1 (1,20,3) (aRun E 20 112 [.int .u32 v] [])=some (.ret (.ref (1,20,3) 0 5 none),some ⟨[.int .u8 (OG.oct v 4),.int .u8 (OG.oct v 3),.int .u8 (OG.oct v 2),.int .u8 (OG.oct v 1),.int .u8 (OG.oct v 0)],true,true,false,1,false⟩):=by
  rw [aRun_fn rfl E_fn112 rfl (Nat.le_of_ble_eq_true rfl),body_112,c112]
  have q1:v.tmod 128=v % 128:=Int.tmod_eq_emod_of_nonneg (by omega)
  have q2:v.tdiv 128=v / 128:=Int.tdiv_eq_ediv_of_nonneg (by omega)
  have q3:v % 128 % 256=v % 128:=by omega
  have a1:0 < v / 128:=by omega
  have m1:v / 128 % 4294967296=v / 128:=by omega
  have q4:(v / 128).tmod 128=v / 128 % 128:=Int.tmod_eq_emod_of_nonneg (by omega)
  have q5:(v / 128).tdiv 128=v / 16384:=by rw [Int.tdiv_eq_ediv_of_nonneg (by omega)]; omega
  have a2:0 < v / 16384:=by omega
  have m3:v / 16384 % 4294967296=v / 16384:=by omega
  have q7:(v / 16384).tmod 128=v / 16384 % 128:=Int.tmod_eq_emod_of_nonneg (by omega)
  have q8:(v / 16384).tdiv 128=v / 2097152:=by rw [Int.tdiv_eq_ediv_of_nonneg (by omega)]; omega
  have a3:0 < v / 2097152:=by omega
  have m5:v / 2097152 % 4294967296=v / 2097152:=by omega
  have p7:(v / 2097152).tmod 128=v / 2097152 % 128:=Int.tmod_eq_emod_of_nonneg (by omega)
  have p8:(v / 2097152).tdiv 128=v / 268435456:=by rw [Int.tdiv_eq_ediv_of_nonneg (by omega)]; omega
  have a4:0 < v / 268435456:=by omega
  have m8:v / 268435456 % 4294967296=v / 268435456:=by omega
  have r7:(v / 268435456).tmod 128=v / 268435456:=by rw [Int.tmod_eq_emod_of_nonneg (by omega)]; omega
  have r8:(v / 268435456).tdiv 128=0:=by rw [Int.tdiv_eq_ediv_of_nonneg (by omega)]; omega
  have m2:(128 + v / 128 % 128) % 4294967296=128 + v / 128 % 128:=by omega
  have m4:(128 + v / 16384 % 128) % 4294967296=128 + v / 16384 % 128:=by omega
  have m6:(128 + v / 2097152 % 128) % 4294967296=128 + v / 2097152 % 128:=by omega
  have m7:(128 + v / 268435456) % 4294967296=128 + v / 268435456:=by omega
  have q6:(128 + v / 128 % 128) % 256=128 + v / 128 % 128:=by omega
  have q9:(128 + v / 16384 % 128) % 256=128 + v / 16384 % 128:=by omega
  have p9:(128 + v / 2097152 % 128) % 256=128 + v / 2097152 % 128:=by omega
  have r9:(128 + v / 268435456) % 256=128 + v / 268435456:=by omega
  have o0:OG.oct v 0=v % 128:=by unfold OG.oct; simp
  have o1:OG.oct v 1=128 + v / 128 % 128:=by unfold OG.oct; simp; omega
  have o2:OG.oct v 2=128 + v / 16384 % 128:=by unfold OG.oct; simp; omega
  have o3:OG.oct v 3=128 + v / 2097152 % 128:=by unfold OG.oct; simp; omega
  have o4:OG.oct v 4=128 + v / 268435456:=by unfold OG.oct; simp; omega
  simp [ret1,q1,q2,q3,a1,a2,a3,a4,m1,m2,m3,m4,m5,m6,m7,m8,q4,q5,q7,q8,q6,q9,p7,p8,p9,r7,r8,r9,o0,o1,o2,o3,o4,w_i64]
theorem dg (v:Int) (h0:0 ≤ v) (h1:v < 4294967296):∃ (key:Key) (cap:Option Nat) (ex:Bool) (hf:Heap),(∀ q,20 ≤ q → aRun E q 112 [.int .u32 v] []=some (.ret (.ref key 0 (OG.grp v).length cap),hf)) ∧ lookK hf key=some ⟨bs (OG.grp v),true,true,ex,1,false⟩ ∧ key.1 ≠ 0 ∧ ((cap=none ∧ ex=false) ∨ cap=some (OG.grp v).length):=by
  unfold OG.grp OG.top
  have fin:∀ (key:Key) (cap:Option Nat) (ex:Bool) (l:List Int),key.1 ≠ 0 → ((cap=none ∧ ex=false) ∨ cap=some l.length) → ret1 key (aRun E 20 112 [.int .u32 v] [])=some (.ret (.ref key 0 l.length cap),some ⟨bs l,true,true,ex,1,false⟩) → ∃ (key:Key) (cap:Option Nat) (ex:Bool) (hf:Heap),(∀ q,20 ≤ q → aRun E q 112 [.int .u32 v] []=some (.ret (.ref key 0 l.length cap),hf)) ∧ lookK hf key=some ⟨bs l,true,true,ex,1,false⟩ ∧ key.1 ≠ 0 ∧ ((cap=none ∧ ex=false) ∨ cap=some l.length):=fun key cap ex l hk hc h => by
    obtain ⟨hf,z1,z2⟩:=ret1_eq h
    exact ⟨key,cap,ex,hf,fun q hq => aRun_le E 20 q hq _ _ _ _ z1,z2,hk,hc⟩
  by_cases a:v < 128
  · rw [if_pos a]; exact fin (1,7,0) (some 1) true [OG.oct v 0] (by decide) (.inr rfl) (dig1_ v h0 a)
  rw [if_neg a]
  by_cases b:v < 16384
  · rw [if_pos b]; exact fin (1,20,0) none false [OG.oct v 1,OG.oct v 0] (by decide) (.inl ⟨rfl,rfl⟩) (dig2_ v (by omega) b)
  rw [if_neg b]
  by_cases c:v < 2097152
  · rw [if_pos c]; exact fin (1,20,1) none false [OG.oct v 2,OG.oct v 1,OG.oct v 0] (by decide) (.inl ⟨rfl,rfl⟩) (dig3_ v (by omega) c)
  rw [if_neg c]
  by_cases d:v < 268435456
  · rw [if_pos d]; exact fin (1,20,2) none false [OG.oct v 3,OG.oct v 2,OG.oct v 1,OG.oct v 0] (by decide) (.inl ⟨rfl,rfl⟩) (dig4_ v (by omega) (by omega))
  rw [if_neg d]
  exact fin (1,20,3) none false [OG.oct v 4,OG.oct v 3,OG.oct v 2,OG.oct v 1,OG.oct v 0] (by decide) (.inl ⟨rfl,rfl⟩) (dig5_ v (by omega) h1)
theorem op (v:Int) (h0:0 ≤ v) (h1:v < 4294967296):∃ (cap:Option Nat) (ex:Bool),((cap=none ∧ ex=false) ∨ cap=some (OG.grp v).length) ∧ ∀ q,20 ≤ q → ∀ slot h,opened [false] false (aRun E q) slot 112 [.int .u32 v] h=some (.ret (.ref (1,slot,genOf h 1 slot) 0 (OG.grp v).length cap),setK h (1,slot,genOf h 1 slot) ⟨bs (OG.grp v),true,true,ex,1,false⟩):=by
  obtain ⟨key,cap,ex,hf,R,lk,nk,hc⟩:=dg v h0 h1
  refine ⟨cap,ex,hc,fun q hq slot h => ?_⟩
  have kk:=bs_kl (OG.grp v)
  have rr:∀ φ,AV.rnL φ (bs (OG.grp v))=bs (OG.grp v):=fun φ => rnL_pure _ (bs_pure _)
  rw [FO.op_fresh (m:=[false]) (slot:=slot) (h:=h) [key] rfl (R q hq) (by simp [reach,lk,AV.keysL,AV.keys,dd,kk]) (by simp [closedH,lk,kk]) (by simpa using nk) (by simp [AV.keysL,AV.keys,inKs])]
  simp [AV.rn,AV.rnL,outK,posK,putAll,lk,rr,nk]
end DG
end
end
