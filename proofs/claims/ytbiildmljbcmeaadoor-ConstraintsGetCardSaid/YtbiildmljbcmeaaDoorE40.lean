/- Own work, no conditions. -/
import Derived.Test.YtbiildmljbcmeaaDoorP5
import Derived.Test.YtbiildmljbcmeaaDoorB32
import Derived.Test.YtbiildmljbcmeaaDoorB40
set_option maxRecDepth 20000
set_option linter.unusedSimpArgs false
set_option linter.unusedVariables false
set_option maxHeartbeats 16000000
section
open Ab Go TabE
attribute [local simp ↓] s_seq s_reg s_regd s_cond s_block s_cons s_consG
attribute [local simp] s_nil s_loop s_round s_lpn s_lpe s_lpr firstReg s_gt s_gf s_wb s_wu s_val s_valN s_skip s_calls s_callP s_cax lookR flatR pureKs s_ret s_rgx s_sqn s_sqr s_sqe s_cdb s_bkn s_bkr s_bke s_exit s_ret' s_skip' s_finr s_finn s_fin1 s_fix s_clean s_gc0 o_tmp o_int o_bool o_nil o_str o_fn o_nil' l_hit l_miss l_nil ol_nil ol_cons ol_some x_move x_assign x_pick pk_t pk_f x_bin bn_s x_un x_extract x_callF cl_no x_callB x_callBF frzV x_conv cvx convA frame0 binA intOp resL resA results1 sealA sealLW AV.pure AV.pureL keepT x_alloc x_box bxx x_build bdx x_buildSlice bsx x_buildSliceF bsf x_load ldx x_store stx x_slice slx x_fieldAddr x_field x_index ixx x_indexAddr iax x_makeSlice msx x_nilCheck newK genOf setK lookK fillA writeL writeC readC conts TyI.mk1 sliceA boundsA boundsB fitsA numA indexAddrA fieldAddrA partA fieldA indexA appendA copyA builtinA AV.cells AV.scal chunk gcH reach keysT keepK inKs AV.keys AV.keysL Ty.isAgg eq1 eqL convA.go ltI w_u8 w_u32 w_u64 w_i64 w_fdiv w_tdiv w_tmod IntKind.bits unA
section
open Ab Go TabE P1 P2 P2 P5
namespace P7
theorem get_A (f:Bool) (c:Option Nat) :Con E 10 154 [.sl f (bs ([])) c] (.tup [.int .i64 0,.int .i64 0,.int .i64 7]):=by
  refine .of (g:=[]) (by simp [AV.pureL,AV.pure,bs_pure]) ?_
  rw [aCall_fn rfl (E_fn154) (by simp [AV.pureL,AV.pure,bs_pure]) (Nat.le_of_ble_eq_true rfl) rfl rfl,body_154,c154]
  simp [bs_nil,bs_cons,bs_length,bs_pure]
theorem get_B (f:Bool) (c:Option Nat) (x:Int) (r:List Int) (x0:0 ≤ x) (h:x ≤ 127):Con E 10 154 [.sl f (bs (x :: r)) c] (.tup [.int .i64 x,.int .i64 1,.int .i64 0]):=by
  refine .of (g:=[]) (by simp [AV.pureL,AV.pure,bs_pure]) ?_
  rw [aCall_fn rfl (E_fn154) (by simp [AV.pureL,AV.pure,bs_pure]) (Nat.le_of_ble_eq_true rfl) rfl rfl,body_154,c154]
  have f0:x < 128:=by omega
  have f1:¬ ((r.length:Int) + 1=0):=by omega
  have f2:(0:Int) < (r.length:Int) + 1:=by omega
  have w1:IntKind.i64.wrap x=x:=w_i64 _ (by omega) (by omega)
  simp [bs_nil,bs_cons,bs_length,bs_pure,f0,f1,f2,h,w1]
theorem get_C0 (f:Bool) (c:Option Nat) (r:List Int):Con E 10 154 [.sl f (bs (128 :: r)) c] (.tup [.int .i64 0,.int .i64 0,.int .i64 10]):=by
  refine .of (g:=[]) (by simp [AV.pureL,AV.pure,bs_pure]) ?_
  rw [aCall_fn rfl (E_fn154) (by simp [AV.pureL,AV.pure,bs_pure]) (Nat.le_of_ble_eq_true rfl) rfl rfl,body_154,c154]
  have f0:¬ ((r.length:Int) + 1=0):=by omega
  have f1:(0:Int) < (r.length:Int) + 1:=by omega
  simp [bs_nil,bs_cons,bs_length,bs_pure,f0,f1]
theorem get_C1 (f:Bool) (c:Option Nat) (x:Int) (r:List Int) (x0:132 ≤ x) (h:x ≤ 255):Con E 10 154 [.sl f (bs (x :: r)) c] (.tup [.int .i64 0,.int .i64 0,.int .i64 10]):=by
  refine .of (g:=[]) (by simp [AV.pureL,AV.pure,bs_pure]) ?_
  rw [aCall_fn rfl (E_fn154) (by simp [AV.pureL,AV.pure,bs_pure]) (Nat.le_of_ble_eq_true rfl) rfl rfl,body_154,c154]
  have f0:¬ x < 128:=by omega
  have f1:¬ x ≤ 127:=by omega
  have f2:¬ ((r.length:Int) + 1=0):=by omega
  have f3:(0:Int) < (r.length:Int) + 1:=by omega
  have f4:¬ x - 128=0:=by omega
  have f5:3 < x - 128:=by omega
  have f6:¬ x - 128 < 1:=by omega
  have w1:IntKind.i64.wrap x=x:=w_i64 _ (by omega) (by omega)
  have w2:IntKind.i64.wrap (x - 128)=x - 128:=w_i64 _ (by omega) (by omega)
  have e1:(x - 128 == 0)=false:=by simp; omega
  have e2:¬ x=128:=by omega
  simp [e1,e2,bs_nil,bs_cons,bs_length,bs_pure,f0,f1,f2,f3,f4,f5,f6,w1,w2]
theorem get_D1 (f:Bool) (c:Option Nat) :Con E 10 154 [.sl f (bs ([129])) c] (.tup [.int .i64 0,.int .i64 0,.int .i64 7]):=by
  refine .of (g:=[]) (by simp [AV.pureL,AV.pure,bs_pure]) ?_
  rw [aCall_fn rfl (E_fn154) (by simp [AV.pureL,AV.pure,bs_pure]) (Nat.le_of_ble_eq_true rfl) rfl rfl,body_154,c154]
  simp [bs_nil,bs_cons,bs_length,bs_pure]
theorem get_D2 (f:Bool) (c:Option Nat) :Con E 10 154 [.sl f (bs ([130])) c] (.tup [.int .i64 0,.int .i64 0,.int .i64 7]):=by
  refine .of (g:=[]) (by simp [AV.pureL,AV.pure,bs_pure]) ?_
  rw [aCall_fn rfl (E_fn154) (by simp [AV.pureL,AV.pure,bs_pure]) (Nat.le_of_ble_eq_true rfl) rfl rfl,body_154,c154]
  simp [bs_nil,bs_cons,bs_length,bs_pure]
theorem get_D2a (f:Bool) (c:Option Nat) (y:Int):Con E 10 154 [.sl f (bs ([130,y])) c] (.tup [.int .i64 0,.int .i64 0,.int .i64 7]):=by
  refine .of (g:=[]) (by simp [AV.pureL,AV.pure,bs_pure]) ?_
  rw [aCall_fn rfl (E_fn154) (by simp [AV.pureL,AV.pure,bs_pure]) (Nat.le_of_ble_eq_true rfl) rfl rfl,body_154,c154]
  simp [bs_nil,bs_cons,bs_length,bs_pure]
theorem get_D3 (f:Bool) (c:Option Nat) :Con E 10 154 [.sl f (bs ([131])) c] (.tup [.int .i64 0,.int .i64 0,.int .i64 7]):=by
  refine .of (g:=[]) (by simp [AV.pureL,AV.pure,bs_pure]) ?_
  rw [aCall_fn rfl (E_fn154) (by simp [AV.pureL,AV.pure,bs_pure]) (Nat.le_of_ble_eq_true rfl) rfl rfl,body_154,c154]
  simp [bs_nil,bs_cons,bs_length,bs_pure]
theorem get_D3a (f:Bool) (c:Option Nat) (y:Int):Con E 10 154 [.sl f (bs ([131,y])) c] (.tup [.int .i64 0,.int .i64 0,.int .i64 7]):=by
  refine .of (g:=[]) (by simp [AV.pureL,AV.pure,bs_pure]) ?_
  rw [aCall_fn rfl (E_fn154) (by simp [AV.pureL,AV.pure,bs_pure]) (Nat.le_of_ble_eq_true rfl) rfl rfl,body_154,c154]
  simp [bs_nil,bs_cons,bs_length,bs_pure]
theorem get_D3b (f:Bool) (c:Option Nat) (y z:Int):Con E 10 154 [.sl f (bs ([131,y,z])) c] (.tup [.int .i64 0,.int .i64 0,.int .i64 7]):=by
  refine .of (g:=[]) (by simp [AV.pureL,AV.pure,bs_pure]) ?_
  rw [aCall_fn rfl (E_fn154) (by simp [AV.pureL,AV.pure,bs_pure]) (Nat.le_of_ble_eq_true rfl) rfl rfl,body_154,c154]
  simp [bs_nil,bs_cons,bs_length,bs_pure]
end P7
end
end
section
open Ab Go TabE
attribute [local simp ↓] s_seq s_reg s_regd s_cond s_block s_cons s_consG i_or
attribute [local simp] s_nil s_loop s_round s_lpn s_lpe s_lpr firstReg s_gt s_gf s_wb s_wu s_val s_valN s_skip s_calls s_callP s_cax lookR flatR pureKs s_ret s_rgx s_sqn s_sqr s_sqe s_cdb s_bkn s_bkr s_bke s_exit s_ret' s_skip' s_finr s_finn s_fin1 s_fix s_clean s_gc0 o_tmp o_int o_bool o_nil o_str o_fn o_nil' l_hit l_miss l_nil ol_nil ol_cons ol_some x_move x_assign x_pick pk_t pk_f x_bin bn_s x_un x_extract x_callF cl_no x_callB x_callBF frzV x_conv cvx convA frame0 binA intOp resL resA results1 sealA sealLW AV.pure AV.pureL keepT x_alloc x_box bxx x_build bdx x_buildSlice bsx x_buildSliceF bsf x_load ldx x_store stx x_slice slx x_fieldAddr x_field x_index ixx x_indexAddr iax x_makeSlice msx x_nilCheck newK genOf setK lookK fillA writeL writeC readC conts TyI.mk1 sliceA boundsA boundsB fitsA numA indexAddrA fieldAddrA partA fieldA indexA appendA copyA builtinA AV.cells AV.scal chunk gcH reach keysT keepK inKs AV.keys AV.keysL Ty.isAgg eq1 eqL convA.go ltI w_u8 w_u32 w_u64 w_i64 w_fdiv w_tdiv w_tmod IntKind.bits unA or64_zero
section
open Ab Go TabE P1 P2 P2 P5 P7
namespace P8
theorem get_E1 (f:Bool) (c:Option Nat) (y:Int) (r:List Int) (y0:128 ≤ y) (y1:y < 256):Con E 10 154 [.sl f (bs (129 :: y :: r)) c] (.tup [.int .i64 y,.int .i64 2,.int .i64 0]):=by
  refine .of (g:=[]) (by simp [AV.pureL,AV.pure,bs_pure]) ?_
  rw [aCall_fn rfl (E_fn154) (by simp [AV.pureL,AV.pure,bs_pure]) (Nat.le_of_ble_eq_true rfl) rfl rfl,body_154,c154]
  have f0:¬ ((r.length:Int) + 1 + 1=0):=by omega
  have f1:(0:Int) < (r.length:Int) + 1 + 1:=by omega
  have f2:¬ ((r.length:Int) + 1 + 1 ≤ 1):=by omega
  have f3:¬ ((r.length:Int) + 1 + 1 < 2):=by omega
  have f4:(1:Int) < (r.length:Int) + 1 + 1:=by omega
  have f5:¬ y=0:=by omega
  have f6:¬ y < 128:=by omega
  have f7:¬ y ≤ 127:=by omega
  have w1:IntKind.i64.wrap (y)=y:=w_i64 _ (by omega) (by omega)
  have m1:min (r.length + 1) 1=1:=by omega
  have o2:or64 0 y=y:=by have h:=(or_three 0 0 y (by omega) (by omega) (by omega) (by omega) (by omega) (by omega)).2; simpa using h
  have e1:(y == 0)=false:=by simp; omega
  simp [bs_nil,bs_cons,bs_length,bs_pure,bs_cells,bs_all,f0,f1,f2,f3,f4,f5,f6,f7,w1,m1,o2,e1]
theorem get_F1 (f:Bool) (c:Option Nat) (y:Int) (r:List Int) (y0:0 < y) (y1:y ≤ 127):Con E 10 154 [.sl f (bs (129 :: y :: r)) c] (.tup [.int .i64 0,.int .i64 0,.int .i64 10]):=by
  refine .of (g:=[]) (by simp [AV.pureL,AV.pure,bs_pure]) ?_
  rw [aCall_fn rfl (E_fn154) (by simp [AV.pureL,AV.pure,bs_pure]) (Nat.le_of_ble_eq_true rfl) rfl rfl,body_154,c154]
  have f0:¬ ((r.length:Int) + 1 + 1=0):=by omega
  have f1:(0:Int) < (r.length:Int) + 1 + 1:=by omega
  have f2:¬ ((r.length:Int) + 1 + 1 ≤ 1):=by omega
  have f3:¬ ((r.length:Int) + 1 + 1 < 2):=by omega
  have f4:(1:Int) < (r.length:Int) + 1 + 1:=by omega
  have f5:¬ y=0:=by omega
  have f6:y < 128:=by omega
  have f7:y ≤ 127:=by omega
  have w1:IntKind.i64.wrap (y)=y:=w_i64 _ (by omega) (by omega)
  have m1:min (r.length + 1) 1=1:=by omega
  have o2:or64 0 y=y:=by have h:=(or_three 0 0 y (by omega) (by omega) (by omega) (by omega) (by omega) (by omega)).2; simpa using h
  have e1:(y == 0)=false:=by simp; omega
  simp [bs_nil,bs_cons,bs_length,bs_pure,bs_cells,bs_all,f0,f1,f2,f3,f4,f5,f6,f7,w1,m1,o2,e1]
theorem get_Z1 (f:Bool) (c:Option Nat) (r:List Int):Con E 10 154 [.sl f (bs (129 :: 0 :: r)) c] (.tup [.int .i64 0,.int .i64 0,.int .i64 10]):=by
  refine .of (g:=[]) (by simp [AV.pureL,AV.pure,bs_pure]) ?_
  rw [aCall_fn rfl (E_fn154) (by simp [AV.pureL,AV.pure,bs_pure]) (Nat.le_of_ble_eq_true rfl) rfl rfl,body_154,c154]
  have f0:¬ ((r.length:Int) + 1 + 1=0):=by omega
  have f1:(0:Int) < (r.length:Int) + 1 + 1:=by omega
  have f2:¬ ((r.length:Int) + 1 + 1 ≤ 1):=by omega
  have f3:¬ ((r.length:Int) + 1 + 1 < 2):=by omega
  have f4:(1:Int) < (r.length:Int) + 1 + 1:=by omega
  have m1:min (r.length + 1) 1=1:=by omega
  simp [bs_nil,bs_cons,bs_length,bs_pure,bs_cells,bs_all,f0,f1,f2,f3,f4,m1]
theorem get_E2 (f:Bool) (c:Option Nat) (y z:Int) (r:List Int) (y0:0 < y) (y1:y < 256) (z0:0 ≤ z) (z1:z < 256):Con E 10 154 [.sl f (bs (130 :: y :: z :: r)) c] (.tup [.int .i64 (256 * y + z),.int .i64 3,.int .i64 0]):=by
  refine .of (g:=[]) (by simp [AV.pureL,AV.pure,bs_pure]) ?_
  rw [aCall_fn rfl (E_fn154) (by simp [AV.pureL,AV.pure,bs_pure]) (Nat.le_of_ble_eq_true rfl) rfl rfl,body_154,c154]
  have f0:¬ ((r.length:Int) + 1 + 1 + 1=0):=by omega
  have f1:(0:Int) < (r.length:Int) + 1 + 1 + 1:=by omega
  have f2:¬ ((r.length:Int) + 1 + 1 + 1 ≤ 2):=by omega
  have f3:¬ ((r.length:Int) + 1 + 1 + 1 < 3):=by omega
  have f4:(1:Int) < (r.length:Int) + 1 + 1 + 1:=by omega
  have f5:(2:Int) < (r.length:Int) + 1 + 1 + 1:=by omega
  have f6:¬ y=0:=by omega
  have f7:¬ 256 * y + z < 128:=by omega
  have f8:¬ 256 * y + z ≤ 127:=by omega
  have w1:IntKind.i64.wrap (y)=y:=w_i64 _ (by omega) (by omega)
  have w2:IntKind.i64.wrap (z)=z:=w_i64 _ (by omega) (by omega)
  have w3:IntKind.i64.wrap (y * 256)=y * 256:=w_i64 _ (by omega) (by omega)
  have w4:IntKind.i64.wrap (256 * y)=256 * y:=w_i64 _ (by omega) (by omega)
  have w5:IntKind.i64.wrap (256 * y + z)=256 * y + z:=w_i64 _ (by omega) (by omega)
  have m2:min (r.length + 1 + 1) 2=2:=by omega
  obtain ⟨p1,p2⟩:=or_three 0 y z (by omega) (by omega) (by omega) (by omega) (by omega) (by omega)
  have o1:or64 0 (y * 256)=y * 256:=by simpa using p1
  have o2:or64 (y * 256) z=256 * y + z:=by
    have e:(0:Int) * 65536 + y * 256=y * 256:=by omega
    rw [e] at p2
    omega
  have e1:(y == 0)=false:=by simp; omega
  simp [bs_nil,bs_cons,bs_length,bs_pure,bs_cells,bs_all,f0,f1,f2,f3,f4,f5,f6,f7,f8,w1,w2,w3,w4,w5,m2,o1,o2,e1]
theorem get_Z2 (f:Bool) (c:Option Nat) (z:Int) (r:List Int) (z0:0 ≤ z) (z1:z < 256):Con E 10 154 [.sl f (bs (130 :: 0 :: z :: r)) c] (.tup [.int .i64 0,.int .i64 0,.int .i64 10]):=by
  refine .of (g:=[]) (by simp [AV.pureL,AV.pure,bs_pure]) ?_
  rw [aCall_fn rfl (E_fn154) (by simp [AV.pureL,AV.pure,bs_pure]) (Nat.le_of_ble_eq_true rfl) rfl rfl,body_154,c154]
  have f0:¬ ((r.length:Int) + 1 + 1 + 1=0):=by omega
  have f1:(0:Int) < (r.length:Int) + 1 + 1 + 1:=by omega
  have f2:¬ ((r.length:Int) + 1 + 1 + 1 ≤ 2):=by omega
  have f3:¬ ((r.length:Int) + 1 + 1 + 1 < 3):=by omega
  have f4:(1:Int) < (r.length:Int) + 1 + 1 + 1:=by omega
  have f5:(2:Int) < (r.length:Int) + 1 + 1 + 1:=by omega
  have w2:IntKind.i64.wrap (z)=z:=w_i64 _ (by omega) (by omega)
  have m2:min (r.length + 1 + 1) 2=2:=by omega
  simp [bs_nil,bs_cons,bs_length,bs_pure,bs_cells,bs_all,f0,f1,f2,f3,f4,f5,w2,m2]
end P8
end
section
open Ab Go TabE P1 P2 P2 P5 P7 P8
namespace P9
theorem get_E3 (f:Bool) (c:Option Nat) (y z u:Int) (r:List Int) (y0:0 < y) (y1:y < 256) (z0:0 ≤ z) (z1:z < 256) (u0:0 ≤ u) (u1:u < 256):Con E 10 154 [.sl f (bs (131 :: y :: z :: u :: r)) c] (.tup [.int .i64 (256 * (256 * y + z) + u),.int .i64 4,.int .i64 0]):=by
  refine .of (g:=[]) (by simp [AV.pureL,AV.pure,bs_pure]) ?_
  rw [aCall_fn rfl (E_fn154) (by simp [AV.pureL,AV.pure,bs_pure]) (Nat.le_of_ble_eq_true rfl) rfl rfl,body_154,c154]
  have f0:¬ ((r.length:Int) + 1 + 1 + 1 + 1=0):=by omega
  have f1:(0:Int) < (r.length:Int) + 1 + 1 + 1 + 1:=by omega
  have f2:¬ ((r.length:Int) + 1 + 1 + 1 + 1 ≤ 3):=by omega
  have f3:¬ ((r.length:Int) + 1 + 1 + 1 + 1 < 4):=by omega
  have f4:(1:Int) < (r.length:Int) + 1 + 1 + 1 + 1:=by omega
  have f5:(2:Int) < (r.length:Int) + 1 + 1 + 1 + 1:=by omega
  have f6:(3:Int) < (r.length:Int) + 1 + 1 + 1 + 1:=by omega
  have f7:¬ y=0:=by omega
  have f8:¬ 256 * (256 * y + z) + u < 128:=by omega
  have f9:¬ 256 * (256 * y + z) + u ≤ 127:=by omega
  have w1:IntKind.i64.wrap (y)=y:=w_i64 _ (by omega) (by omega)
  have w2:IntKind.i64.wrap (z)=z:=w_i64 _ (by omega) (by omega)
  have w3:IntKind.i64.wrap (u)=u:=w_i64 _ (by omega) (by omega)
  have w4:IntKind.i64.wrap (256 * y)=256 * y:=w_i64 _ (by omega) (by omega)
  have w5:IntKind.i64.wrap (256 * y + z)=256 * y + z:=w_i64 _ (by omega) (by omega)
  have w6:IntKind.i64.wrap (256 * (256 * y + z))=256 * (256 * y + z):=w_i64 _ (by omega) (by omega)
  have w7:IntKind.i64.wrap (256 * (256 * y + z) + u)=256 * (256 * y + z) + u:=w_i64 _ (by omega) (by omega)
  have w8:IntKind.i64.wrap (y * 65536)=y * 65536:=w_i64 _ (by omega) (by omega)
  have w9:IntKind.i64.wrap (z * 256)=z * 256:=w_i64 _ (by omega) (by omega)
  have m3:min (r.length + 1 + 1 + 1) 3=3:=by omega
  obtain ⟨o1,p2⟩:=or_three y z u (by omega) (by omega) (by omega) (by omega) (by omega) (by omega)
  have o2:or64 (y * 65536 + z * 256) u=256 * (256 * y + z) + u:=by omega
  have e1:(y == 0)=false:=by simp; omega
  simp [bs_nil,bs_cons,bs_length,bs_pure,bs_cells,bs_all,f0,f1,f2,f3,f4,f5,f6,f7,f8,f9,w1,w2,w3,w8,w9,w7,m3,o1,o2,e1]
theorem get_Z3 (f:Bool) (c:Option Nat) (z u:Int) (r:List Int) (z0:0 ≤ z) (z1:z < 256) (u0:0 ≤ u) (u1:u < 256):Con E 10 154 [.sl f (bs (131 :: 0 :: z :: u :: r)) c] (.tup [.int .i64 0,.int .i64 0,.int .i64 10]):=by
  refine .of (g:=[]) (by simp [AV.pureL,AV.pure,bs_pure]) ?_
  rw [aCall_fn rfl (E_fn154) (by simp [AV.pureL,AV.pure,bs_pure]) (Nat.le_of_ble_eq_true rfl) rfl rfl,body_154,c154]
  have f0:¬ ((r.length:Int) + 1 + 1 + 1 + 1=0):=by omega
  have f1:(0:Int) < (r.length:Int) + 1 + 1 + 1 + 1:=by omega
  have f2:¬ ((r.length:Int) + 1 + 1 + 1 + 1 ≤ 3):=by omega
  have f3:¬ ((r.length:Int) + 1 + 1 + 1 + 1 < 4):=by omega
  have f4:(1:Int) < (r.length:Int) + 1 + 1 + 1 + 1:=by omega
  have f5:(2:Int) < (r.length:Int) + 1 + 1 + 1 + 1:=by omega
  have f6:(3:Int) < (r.length:Int) + 1 + 1 + 1 + 1:=by omega
  have w2:IntKind.i64.wrap (z)=z:=w_i64 _ (by omega) (by omega)
  have w3:IntKind.i64.wrap (u)=u:=w_i64 _ (by omega) (by omega)
  have m3:min (r.length + 1 + 1 + 1) 3=3:=by omega
  simp [bs_nil,bs_cons,bs_length,bs_pure,bs_cells,bs_all,f0,f1,f2,f3,f4,f5,f6,w2,w3,m3]
end P9
end
end
section
open Ab Go TabE
attribute [local simp ↓] s_seq s_reg s_regd s_cond s_block s_cons s_consG
attribute [local simp] s_nil s_loop s_round s_lpn s_lpe s_lpr firstReg s_gt s_gf s_wb s_wu s_val s_valN s_skip s_calls s_callP s_cax lookR flatR pureKs s_ret s_rgx s_sqn s_sqr s_sqe s_cdb s_bkn s_bkr s_bke s_exit s_ret' s_skip' s_finr s_finn s_fin1 s_fix s_clean s_gc0 o_tmp o_int o_bool o_nil o_str o_fn o_nil' l_hit l_miss l_nil ol_nil ol_cons ol_some x_move x_assign x_pick pk_t pk_f x_bin bn_s x_un x_extract x_callF cl_no x_callB x_callBF frzV x_conv cvx convA frame0 binA intOp resL resA results1 sealLW AV.pure AV.pureL keepT x_alloc x_box bxx x_build bdx x_buildSlice bsx x_buildSliceF bsf x_load ldx x_store stx x_slice slx x_fieldAddr x_field x_index ixx x_indexAddr iax x_makeSlice msx x_makeSliceF msf x_nilCheck newK genOf setK lookK fillA writeL writeC readC conts TyI.mk1 sliceA boundsA boundsB fitsA numA indexAddrA fieldAddrA partA fieldA indexA appendA copyA builtinA AV.cells chunk gcH reach keysT keepK inKs AV.keys AV.keysL Ty.isAgg eq1 eqL convA.go ltI w_u8 w_u32 w_u64 w_i64 w_fdiv w_tdiv w_tmod IntKind.bits unA sc_int sc_bool sc_str sc_sl sc_ref sc_ptr sc_pel sc_nilp sc_fn sc_nilf sc_if sc_nili sc_agg sc_tup sc_mem bs_pure bs_kl bs_length bs_cells bs_all sl_row sealRow sealY sl_int sl_bool sl_str sl_sl sl_nilp sl_nilf sl_nili sl_pel sl_agg sl_tup sl_fn sl_if nat_1 bs_cons bs_nil i_beq i_bne x_mkF x_mkI x_tassert x_panic s_pan s_sqp s_bkp s_finp s_fixp s_lpp s_rgp s_retp s_site s_stxN s_stxO x_callT clx
section
open Ab Go TabE Sp
namespace E6
theorem tag_put (c:Int) (k:Bool) (n:Int) (c0:0 ≤ c) (c1:c < 256) (n0:0 ≤ n) (n1:n < 4294967296) (h:tagE c k n=0) :
    Con E 1 159 [.agg [.int .u8 c,.bool k,.int .u32 n]] (.tup [.sl false (bs (TG.tagO c k n)) (some (TG.tagO c k n).length),.int .i64 0]) :=
  con_prim (p:=TG.tagP) rfl rfl (by unfold TG.tagP; simp only; rw [if_pos ⟨c0,c1,n0,n1⟩,if_pos h,h]; rfl) rfl
theorem tag_size (c:Int) (k:Bool) (n:Int) (c0:0 ≤ c) (c1:c < 256) (n0:0 ≤ n) (n1:n < 4294967296) (h:tagE c k n=0) :
    Con E 10 158 [.agg [.int .u8 c,.bool k,.int .u32 n]] (.int .i64 ((TG.tagO c k n).length:Int)):=by
  refine con_of E_fn158 rfl (Nat.le_of_ble_eq_true rfl) rfl rfl (g:=[]) ?_
  rw [body_158,c158]
  have p:=tag_put c k n c0 c1 n0 n1 h
  simp [p]
theorem len_sz (n:Int) (n0:0 ≤ n) (n1:n < 16777216):P5.sz n=((lenO n).length:Int):=by
  unfold P5.sz lenO
  rw [if_neg (by omega)]
  split
  · simp
  split
  · simp
  split
  · simp
  · rw [if_pos (by omega)]; simp
theorem total (t n:Int) (t0:1 ≤ t) (t1:t ≤ 5) (n0:0 ≤ n) (n1:n < 16777216):Con E 30 157 [.int .i64 t,.int .i64 n] (.int .i64 (t + (lenO n).length + n)):=by
  have s:=P5.size n
  rw [len_sz n n0 n1] at s
  have q:=lenO_len n
  exact P5.total_in t n _ t0 t1 s (by omega) (by omega) n0 n1
def Szd (e:El) (r:Int):Prop:=1 ≤ r ∧ r ≤ 2000000000 ∧ (((enc e.core).length:Int) ≤ 1048576 → r=((enc e.core).length:Int)) ∧ (1048576 < ((enc e.core).length:Int) → 1048576 < r)
def Cnd (e:El) (r:Int):Prop:=0 ≤ r ∧ r ≤ 1000000000 ∧ (((e.b ++ encs (El.cores e.s)).length:Int) ≤ 1048576 → r=((e.b ++ encs (El.cores e.s)).length:Int)) ∧ (1048576 < ((e.b ++ encs (El.cores e.s)).length:Int) → 1048576 < r)
theorem size_of (e:El) (he:e.ok) (hv:vld e.core) (r:Int) (hr:Cnd e r) (N:Nat) (C:Con E N 156 [e.av] (.int .i64 r)):∃ q,Con E (N + 41) 134 [e.av] (.int .i64 q) ∧ Szd e q:=by
  obtain ⟨v1,v2,v3,v4⟩:=(vld_eq e).1 hv
  obtain ⟨r0,r1,r2,r3⟩:=hr
  have tl:=tagO_len e.c e.k e.n
  have ll:=lenO_len ((e.b ++ encs (El.cores e.s)).length:Int)
  have C':=C (N + 40) (by omega) 0
  rw [El.av_eq] at C'
  have el:((enc e.core).length:Int)=(TG.tagO e.c e.k e.n).length + (lenO ((e.b ++ encs (El.cores e.s)).length:Int)).length + (e.b ++ encs (El.cores e.s)).length:=by
    rw [enc_eq,List.length_append,List.length_append]; omega
  by_cases h:1048576 < r
  · refine ⟨r,con_of E_fn134 (by simp [AV.pureL,El.av_pure]) (Nat.le_of_ble_eq_true rfl) rfl rfl (g:=[]) ?_,by omega,by omega,fun q => ?_,fun _ => h⟩
    · rw [body_134,c134]
      simp [El.av_eq,C',h]
    · have:=r2 (by omega); omega
  · have le:((e.b ++ encs (El.cores e.s)).length:Int) ≤ 1048576:=by
      by_cases q:1048576 < ((e.b ++ encs (El.cores e.s)).length:Int)
      · exact absurd (r3 q) h
      · omega
    have re:=r2 le
    have T:=total ((TG.tagO e.c e.k e.n).length:Int) r (by omega) (by omega) r0 (by omega)
    have S:=tag_size e.c e.k e.n he.cb.1 he.cb.2 he.nb.1 he.nb.2 v1
    have T':=T (N + 40) (by omega) 0
    have S':=S (N + 40) (by omega) 0
    refine ⟨((TG.tagO e.c e.k e.n).length:Int) + (lenO r).length + r,con_of E_fn134 (by simp [AV.pureL,El.av_pure]) (Nat.le_of_ble_eq_true rfl) rfl rfl (g:=[]) ?_,?_⟩
    · rw [body_134,c134]
      simp [El.av_eq,C',h,T',S']
    · have ll2:=lenO_len r
      refine ⟨by omega,by omega,fun q => ?_,fun q => ?_⟩
      · rw [el,← re]
      · rw [el,← re] at q; exact q
def b90:Code:=lp c156 0
abbrev S (f:Bool) (s:List El) (c:Option Nat) (i:Nat) (n:Int):St:=⟨[(3,.int .i64 n),(14,.sl f (El.avs s) c),(15,.int .i64 (s.length:Int)),(16,.int .i64 (i:Int))],[]⟩
theorem round (q k1:Nat) (f s c) (i:Nat) (n r:Int) (x:El) (hx:s[i]? = some x) (ls:s.length ≤ 1000000000) (n0:0 ≤ n) (n1:n ≤ 1048577) (r0:0 ≤ r) (r1:r ≤ 2000000000) (B:∀ h,aCall E q 0 134 [x.av] h=some (.ret (.int .i64 r),h)) :
    rnd fn156 b90 q k1 (S f s c i n)=some (.normal,S f s c (i + 1) (min (n + r) 1048577)):=by
  have hi:i < s.length:=(List.getElem?_eq_some_iff.1 hx).1
  have ix:=El.at_ f c s i x hx
  have w:=w64' ((i:Int) + 1) (by omega) (by omega)
  have w2:=w64' (n + r) (by omega) (by omega)
  have mn:(if 1048577 < n + r then 1048577 else n + r)=min (n + r) 1048577:=by rw [Int.min_def]; split <;> split <;> omega
  rw [El.av_eq] at B
  simp [b90,lp,lps,c156,-indexAddrA,ix,w,w2,hi,B,mn]
theorem last (q k1:Nat) (f s c) (n:Int) :
    rnd fn156 b90 q k1 (S f s c s.length n)=some (.exit 0,⟨[(3,.int .i64 n),(14,.sl f (El.avs s) c),(15,.int .i64 (s.length:Int)),(16,.int .i64 (s.length:Int)),(17,.bool false)],[]⟩):=by
  simp [b90,lp,lps,c156]
end E6
end
end
section
open Ab Go TabE Sp E6
namespace E7
def Inv (n:Int) (t:Nat):Prop:=0 ≤ n ∧ n ≤ 1048577 ∧ ((t:Int) ≤ 1048576 → n=t) ∧ (1048576 < (t:Int) → n=1048577)
theorem loop (K:Nat) (f s c) (ls:s.length ≤ 1000000000) (B:∀ x ∈ s,∃ r,(∀ h,aCall E K 0 134 [x.av] h=some (.ret (.int .i64 r),h)) ∧ Szd x r) :
    ∀ (rest:List El) (i:Nat) (n:Int) (t:Nat) (k:Nat),s.drop i=rest → i + rest.length=s.length → Inv n t → rest.length < k →
      ∃ m,Inv m (t + (encs (El.cores rest)).length) ∧ aLoop (aCode E (aCall E K) (dcall (aRun E K)) K 1 fn156 b90) (cleanS 1 ((firstReg b90).bind fn156.head)) k (S f s c i n) =
        some (.exit 0,⟨[(3,.int .i64 m),(14,.sl f (El.avs s) c),(15,.int .i64 (s.length:Int)),(16,.int .i64 (s.length:Int)),(17,.bool false)],[]⟩)
  | [],i,n,t,k,h1,h2,hn,hk => by
    obtain ⟨k,rfl⟩:∃ j,k=j + 1:=⟨k - 1,by simp at hk; omega⟩
    obtain rfl:i=s.length:=by simpa using h2
    exact ⟨n,by simpa [El.cores,encs] using hn,aLoop_end (last K K f s c n) (by simp)⟩
  | x :: rest,i,n,t,k,h1,h2,hn,hk => by
    obtain ⟨k,rfl⟩:∃ j,k=j + 1:=⟨k - 1,by simp at hk; omega⟩
    have hx:s[i]? = some x:=by
      have:=congrArg (fun l => l[0]?) h1
      simpa [List.getElem?_drop] using this
    have hd:s.drop (i + 1)=rest:=by
      have:=congrArg List.tail h1
      simpa [List.tail_drop] using this
    obtain ⟨r,hB,z1,z2,z3,z4⟩:=B x (List.mem_of_getElem? hx)
    obtain ⟨n0,n1,n2,n3⟩:=hn
    have hn':Inv (min (n + r) 1048577) (t + (enc x.core).length):=by
      refine ⟨by omega,by omega,fun q => ?_,fun q => ?_⟩
      · have a:=n2 (by omega); have b:=z3 (by omega); omega
      · by_cases ht:1048576 < (t:Int)
        · have:=n3 ht; omega
        · have a:=n2 (by omega)
          by_cases hz:1048576 < ((enc x.core).length:Int)
          · have:=z4 hz; omega
          · have:=z3 (by omega); omega
    obtain ⟨m,hm,he⟩:=loop K f s c ls B rest (i + 1) _ _ k hd (by simp at h2; omega) hn' (by simp at hk; omega)
    refine ⟨m,?_,?_⟩
    · rw [El.cores,encs,List.length_append]
      rwa [Nat.add_assoc] at hm
    · rw [aLoop_succ (round K K f s c i n r x hx ls n0 n1 (by omega) z2 hB)]
      exact he
theorem content (e:El) (hs:e.sm) (hv:vld e.core) (N:Nat) (B:∀ x ∈ e.s,∃ r,Con E N 134 [x.av] (.int .i64 r) ∧ Szd x r):∃ r,Con E (N + e.s.length + 41) 156 [e.av] (.int .i64 r) ∧ Cnd e r:=by
  obtain ⟨v1,v2,v3,v4⟩:=(vld_eq e).1 hv
  obtain ⟨s1,s2,s3⟩:=(El.sm_eq e).1 hs
  have lb:=bs_length e.b
  have ls:=El.avs_len e.s
  cases hk:e.k with
  | false =>
    have es:e.s=[]:=v3 hk
    refine ⟨(e.b.length:Int),con_of E_fn156 (by simp [AV.pureL,El.av_pure]) (Nat.le_of_ble_eq_true rfl) rfl rfl (g:=[]) ?_,by omega,by omega,fun q => by rw [es]; simp [El.cores,encs],fun q => by rw [es] at q; simpa [El.cores,encs] using q⟩
    rw [body_156,c156]
    simp [El.av_eq,↓s_seq,↓s_reg,↓s_cond,↓s_cons,s_nil,s_val,s_rgx,s_sqn,s_sqr,s_cdb,s_ret',s_finr,s_fin1,s_fix,s_clean,o_tmp,o_int,l_hit,l_miss,ol_nil,ol_cons,ol_some,x_assign,x_un,x_callB,frame0,resL,resA,results1,AV.pure,keepT,x_box,bxx,x_load,ldx,x_fieldAddr,newK,genOf,setK,lookK,writeL,writeC,readC,conts,TyI.mk1,fieldAddrA,appendA,copyA,builtinA,AV.cells,gcH,reach,keysT,keepK,inKs,AV.keys,AV.keysL,Ty.isAgg,unA,sc_int,sc_bool,sc_sl,bs_length,sl_int,hk]
  | true =>
    have eb:e.b=[]:=v2 hk
    obtain ⟨m,hm,L⟩:=loop (N + e.s.length + 40) e.fs e.s e.cs s2 (fun x hx => by
      obtain ⟨r,h1,h2⟩:=B x hx
      exact ⟨r,h1 _ (by omega) 0,h2⟩) e.s 0 0 0 (N + e.s.length + 40) rfl (by simp) ⟨by omega,by omega,fun _ => rfl,fun q => by simp at q⟩ (by omega)
    obtain ⟨m0,m1,m2,m3⟩:=hm
    rw [Nat.zero_add] at m2 m3
    refine ⟨m,con_of E_fn156 (by simp [AV.pureL,El.av_pure]) (Nat.le_of_ble_eq_true rfl) rfl rfl (g:=[]) ?_,m0,by omega,fun q => by rw [eb] at q ⊢; simp at q ⊢; exact m2 q,fun q => by rw [eb] at q; simp at q; have:=m3 q; omega⟩
    rw [body_156,c156]
    simp [b90,lp,lps,c156,firstReg,S] at L
    simp [El.av_eq,↓s_seq,↓s_reg,↓s_cond,↓s_block,↓s_cons,s_nil,s_loop,firstReg,s_val,s_rgx,s_sqn,s_cdb,s_bke,s_ret',s_skip',s_finr,s_fin1,s_fix,s_clean,o_tmp,o_int,l_hit,l_miss,ol_nil,ol_cons,ol_some,x_move,x_assign,x_un,x_callB,frame0,resL,resA,results1,AV.pure,keepT,x_box,bxx,x_load,ldx,x_fieldAddr,newK,genOf,setK,lookK,writeL,writeC,readC,conts,TyI.mk1,fieldAddrA,appendA,copyA,builtinA,AV.cells,gcH,reach,keysT,keepK,inKs,AV.keys,AV.keysL,Ty.isAgg,unA,sc_int,sc_bool,sc_sl,sl_int,hk,L,ls]
theorem size:∀ e:El,e.ok → e.sm → vld e.core → ∃ N r,Con E N 134 [e.av] (.int .i64 r) ∧ Szd e r:=by
  refine El.ind fun e ih he hs hv => ?_
  obtain ⟨v1,v2,v3,v4⟩:=(vld_eq e).1 hv
  obtain ⟨s1,s2,s3⟩:=(El.sm_eq e).1 hs
  obtain ⟨N,hN⟩:=unif (P:=fun (x:El) (n:Nat) => ∃ r,Con E n 134 [x.av] (.int .i64 r) ∧ Szd x r) (fun x n m ⟨r,h1,h2⟩ hm => ⟨r,h1.mono hm,h2⟩) e.s (fun x hx => by
    obtain ⟨n,r,h⟩:=ih x hx (he.sub x hx) (s3 x hx) (vlds_all.1 v4 x hx)
    exact ⟨n,r,h⟩)
  obtain ⟨r,h1,h2⟩:=content e hs hv N hN
  obtain ⟨q,h3,h4⟩:=size_of e he hv r h2 _ h1
  exact ⟨_,q,h3,h4⟩
theorem content_ok (e:El) (he:e.ok) (hs:e.sm) (hv:vld e.core):∃ N r,Con E N 156 [e.av] (.int .i64 r) ∧ Cnd e r:=by
  obtain ⟨v1,v2,v3,v4⟩:=(vld_eq e).1 hv
  obtain ⟨s1,s2,s3⟩:=(El.sm_eq e).1 hs
  obtain ⟨N,hN⟩:=unif (P:=fun (x:El) (n:Nat) => ∃ r,Con E n 134 [x.av] (.int .i64 r) ∧ Szd x r) (fun x n m ⟨r,h1,h2⟩ hm => ⟨r,h1.mono hm,h2⟩) e.s (fun x hx => by
    obtain ⟨n,r,h⟩:=size x (he.sub x hx) (s3 x hx) (vlds_all.1 v4 x hx)
    exact ⟨n,r,h⟩)
  obtain ⟨r,h1,h2⟩:=content e hs hv N hN
  exact ⟨_,r,h1,h2⟩
end E7
end
section
open Ab Go TabE
attribute [local simp ↓] s_seq s_reg s_regd s_cond s_block s_cons s_consG
attribute [local simp] s_nil s_loop s_round s_lpn s_lpe s_lpr firstReg s_gt s_gf s_wb s_wu s_val s_valN s_skip s_calls s_callP s_cax lookR flatR pureKs s_ret s_rgx s_sqn s_sqr s_sqe s_cdb s_bkn s_bkr s_bke s_exit s_ret' s_skip' s_finr s_finn s_fin1 s_fix s_clean s_gc0 o_tmp o_int o_bool o_nil o_str o_fn o_nil' l_hit l_miss l_nil ol_nil ol_cons ol_some x_move x_assign x_pick pk_t pk_f x_bin bn_s x_un x_extract x_callF cl_no x_callB x_callBF frzV x_conv cvx convA frame0 binA intOp resL resA results1 sealLW AV.pure AV.pureL keepT x_alloc x_box bxx x_build bdx x_buildSlice bsx x_buildSliceF bsf x_load ldx x_store stx x_slice slx x_fieldAddr x_field x_index ixx x_indexAddr iax x_makeSlice msx x_makeSliceF msf x_nilCheck newK genOf setK lookK fillA writeL writeC readC conts TyI.mk1 sliceA boundsA boundsB fitsA numA indexAddrA fieldAddrA partA fieldA indexA appendA copyA builtinA AV.cells chunk gcH reach keysT keepK inKs AV.keys AV.keysL Ty.isAgg eq1 eqL convA.go ltI w_u8 w_u32 w_u64 w_i64 w_fdiv w_tdiv w_tmod IntKind.bits unA sc_int sc_bool sc_str sc_sl sc_ref sc_ptr sc_pel sc_nilp sc_fn sc_nilf sc_if sc_nili sc_agg sc_tup sc_mem bs_pure bs_kl bs_length bs_cells bs_all sl_row sealRow sealY sl_int sl_bool sl_str sl_sl sl_nilp sl_nilf sl_nili sl_pel sl_agg sl_tup sl_fn sl_if nat_1 bs_cons bs_nil i_beq i_bne x_mkF x_mkI x_tassert x_panic s_pan s_sqp s_bkp s_finp s_fixp s_lpp s_rgp s_retp s_site s_stxN s_stxO x_callT clx El.avs_len
section
open Ab Go TabE Sp E6 E7
namespace E8
theorem len_put (n:Int) (n0:0 ≤ n) (n1:n ≤ 16777215):Con E 10 160 [.int .i64 n] (.tup [.sl false (bs (lenO n)) (some (lenO n).length),.int .i64 0]):=by
  unfold lenO
  split
  · exact P1.put_1 n n0 (by omega)
  split
  · exact P1.put_2 n (by omega) (by omega)
  split
  · exact P1.put_3 n (by omega) (by omega)
  · exact P1.put_4 n (by omega) (by omega)
abbrev R (pre:List Int) (z:Nat):AObj:=⟨bs (pre ++ List.replicate z 0),true,true,true,1,false⟩
theorem w_row (pre ys:List Int) (z L:Nat) (hL:pre.length=L) (h:ys.length ≤ z):writeL (bs (pre ++ List.replicate z 0)) L (bs ys)=bs (pre ++ ys ++ List.replicate (z - ys.length) 0):=by
  subst hL
  unfold writeL
  rw [bs_take,bs_drop,bs_length,← bs_append,← bs_append]
  congr 1
  rw [List.take_left,List.append_assoc,List.append_assoc]
  congr 1
  rw [List.drop_append,List.drop_of_length_le (by omega),List.nil_append,Nat.add_sub_cancel_left,List.drop_replicate]
theorem wc (pre ys:List Int) (z L:Nat) (hL:pre.length=L) (h:ys.length ≤ z) (own:Heap):writeC (((0,0,0),R pre z) :: own) (0,0,0) L (bs ys)=some (((0,0,0),R (pre ++ ys) (z - ys.length)) :: own):=by
  unfold writeC
  simp only [lookK,if_true]
  rw [if_pos ⟨trivial,trivial,by rw [bs_length,bs_length,List.length_append,List.length_replicate]; omega,bs_scal ys⟩]
  simp only [setK,if_true,w_row pre ys z L hL h]
theorem op_put {run:RunF} {slot:Nat} {cs:List AV} {L L' n:Nat} {o o':AObj} {own:Heap} (hp:AV.pureL cs=true) (k1:AV.keysL o.cells=[]) (k2:AV.keysL o'.cells=[]) (r1:∀ φ,AV.rnL φ o.cells=o.cells) (r2:∀ φ,AV.rnL φ o'.cells=o'.cells)
    (hr:run 135 [.ref (0,0,0) 0 L (some n),.agg cs] [((0,0,0),o)]=some (.ret (.ref (0,0,0) 0 L' (some n)),[((0,0,0),o')])) :
    opened [true,false] false run slot 135 [.ref (0,0,0) 0 L (some n),.agg cs] (((0,0,0),o) :: own)=some (.ret (.ref (0,0,0) 0 L' (some n)),((0,0,0),o') :: own):=by
  have e1:sealM (sealA 20) [true,false] (((0,0,0),o) :: own) [.ref (0,0,0) 0 L (some n),.agg cs]=some ([.ref (0,0,0) 0 L (some n),.agg cs],((0,0,0),o) :: own):=by
    simp [sealM,sl_agg,hp]
  have kc:AV.keysL cs=[]:=AV.keysL_pure _ hp
  have rc:∀ φ,AV.rnL φ cs=cs:=fun φ => rnL_pure cs hp
  unfold opened
  rw [e1]
  have e2:AV.keysL [.ref (0,0,0) 0 L (some n),.agg cs]=[(0,0,0)]:=by simp [AV.keysL,AV.keys,kc]
  simp only [e2]
  have e3:dd (reach (((0,0,0),o) :: own) 3 [(0,0,0)])=[(0,0,0)]:=by
    simp [reach,lookK,k1,dd]
  rw [e3]
  unfold lendA
  have e4:lendH (((0,0,0),o) :: own) (inK [(0,0,0)]) [(0,0,0)]=some [((0,0,0),o)]:=by
    simp [lendH,lookK,inK,posK,r1]
  rw [e4]
  simp only [e2]
  have e6:closedH (((0,0,0),o) :: own) [(0,0,0)] [(0,0,0)]=true:=by simp [closedH,lookK,k1]
  rw [if_pos ⟨e6,by rfl⟩]
  have e5:AV.rnL (inK [(0,0,0)]) [.ref (0,0,0) 0 L (some n),.agg cs]=[.ref (0,0,0) 0 L (some n),.agg cs]:=by simp [AV.rnL,AV.rn,rc,inK,posK]
  rw [e5,hr]
  have e7:∀ o'':AObj,AV.keysL o''.cells=[] → dd (reach [((0,0,0),o'')] 3 ([(0,0,0)] ++ [(0,0,0)]))=[(0,0,0)]:=fun o'' h => by simp [reach,lookK,h,dd]
  have e8:AV.keysL [AV.ref (0,0,0) 0 L' (some n)]=[(0,0,0)]:=rfl
  have e9:lentKs 1=[(0,0,0)]:=rfl
  have e10:closedH [((0,0,0),o')] [(0,0,0)] [(0,0,0)]=true:=by simp [closedH,lookK,k2]
  simp only [backR,Bool.false_eq_true,if_false,backV,back,List.length_singleton,e8,e9,e7 o' k2,backA]
  rw [if_pos ⟨e10,by rfl,by rfl,by rfl⟩]
  simp [AV.rnL,AV.rn,outK,putAll,lookK,setK,r2]
theorem R_keys (pre z):AV.keysL (R pre z).cells=[]:=bs_kl _
theorem R_rn (pre z φ):AV.rnL φ (R pre z).cells=(R pre z).cells:=rnL_pure _ (bs_pure _)
def b70:Code:=lp c135 0
abbrev S (L n:Nat) (f:Bool) (s:List El) (c:Option Nat) (i:Nat) (pre:List Int) (z:Nat):St:=⟨[(0,.ref (0,0,0) 0 L (some n)),(33,.sl f (El.avs s) c),(34,.int .i64 (s.length:Int)),(35,.int .i64 (i:Int))],[((0,0,0),R pre z)]⟩
theorem round (q k1:Nat) (L L' n:Nat) (f s c) (i:Nat) (pre pre':List Int) (z z':Nat) (x:El) (hx:s[i]? = some x) (ls:s.length ≤ 1000000000)
    (B:∀ own slot,opened [true,false] false (aRun E q) slot 135 [.ref (0,0,0) 0 L (some n),.agg (ec x)] (((0,0,0),R pre z) :: own)=some (.ret (.ref (0,0,0) 0 L' (some n)),((0,0,0),R pre' z') :: own)) :
    rndO fn135 b70 q k1 (S L n f s c i pre z)=some (.normal,S L' n f s c (i + 1) pre' z'):=by
  have hi:i < s.length:=(List.getElem?_eq_some_iff.1 hx).1
  have ix:=El.at_ f c s i x hx
  have w:=w64' ((i:Int) + 1) (by omega) (by omega)
  simp [R] at B
  have kk:∀ pre z,AV.keysL (bs (pre ++ List.replicate z 0))=[]:=fun _ _ => bs_kl _
  simp [b70,lp,lps,c135,-indexAddrA,ix,w,hi,B]
theorem last (q k1:Nat) (L n:Nat) (f s c) (pre:List Int) (z:Nat) :
    rndO fn135 b70 q k1 (S L n f s c s.length pre z)=some (.exit 0,⟨[(0,.ref (0,0,0) 0 L (some n)),(33,.sl f (El.avs s) c),(34,.int .i64 (s.length:Int)),(35,.int .i64 (s.length:Int)),(36,.bool false)],[((0,0,0),R pre z)]⟩):=by
  simp [b70,lp,lps,c135]
end E8
end
end
section
open Ab Go TabE
attribute [local simp ↓] s_seq s_reg s_regd s_cond s_block s_cons s_consG
attribute [local simp] s_nil s_loop s_round s_lpn s_lpe s_lpr firstReg s_gt s_gf s_wb s_wu s_val s_valN s_skip s_calls s_callP s_cax lookR flatR pureKs s_ret s_rgx s_sqn s_sqr s_sqe s_cdb s_bkn s_bkr s_bke s_exit s_ret' s_skip' s_finr s_finn s_fin1 s_fix s_clean s_gc0 o_tmp o_int o_bool o_nil o_str o_fn o_nil' l_hit l_miss l_nil ol_nil ol_cons ol_some x_move x_assign x_pick pk_t pk_f x_bin bn_s x_un x_extract x_callF cl_no x_callB x_callBF frzV x_conv cvx convA frame0 binA intOp resL resA results1 sealLW AV.pure AV.pureL keepT x_alloc x_box bxx x_build bdx x_buildSlice bsx x_buildSliceF bsf x_load ldx x_store stx x_slice slx x_fieldAddr x_field x_index ixx x_indexAddr iax x_makeSlice msx x_makeSliceF msf x_nilCheck newK genOf setK lookK fillA readC conts TyI.mk1 sliceA boundsA boundsB fitsA numA indexAddrA fieldAddrA partA fieldA indexA appendA copyA builtinA AV.cells chunk gcH reach keysT keepK inKs AV.keys AV.keysL Ty.isAgg eq1 eqL convA.go ltI w_u8 w_u32 w_u64 w_i64 w_fdiv w_tdiv w_tmod IntKind.bits unA sc_int sc_bool sc_str sc_sl sc_ref sc_ptr sc_pel sc_nilp sc_fn sc_nilf sc_if sc_nili sc_agg sc_tup sc_mem bs_pure bs_kl bs_length bs_cells bs_all sl_row sealRow sealY sl_int sl_bool sl_str sl_sl sl_nilp sl_nilf sl_nili sl_pel sl_agg sl_tup sl_fn sl_if nat_1 bs_cons bs_nil i_beq i_bne x_mkF x_mkI x_tassert x_panic s_pan s_sqp s_bkp s_finp s_fixp s_lpp s_rgp s_retp s_site s_stxN s_stxO x_callT clx El.avs_len
section
open Ab Go TabE Sp E8
namespace E9
def Puts (N:Nat) (x:El):Prop:=∀ k,N ≤ k → ∀ (pre:List Int) (z n:Nat),pre.length + z=n → (enc x.core).length ≤ z → n ≤ 4000000 →
  aRun E k 135 [.ref (0,0,0) 0 pre.length (some n),.agg (ec x)] [((0,0,0),R pre z)]=some (.ret (.ref (0,0,0) 0 (pre.length + (enc x.core).length) (some n)),[((0,0,0),R (pre ++ enc x.core) (z - (enc x.core).length))])
theorem loop (K:Nat) (n:Nat) (hn:n ≤ 4000000) (f s c) (ls:s.length ≤ 1000000000) (W:∀ x ∈ s,Puts K x) :
    ∀ (rest:List El) (i:Nat) (pre:List Int) (z:Nat) (k:Nat),s.drop i=rest → i + rest.length=s.length → pre.length + z=n → (encs (El.cores rest)).length ≤ z → rest.length < k →
      aLoop (aCode E (site fn135 (aRun E K)) (dcall (aRun E K)) K 1 fn135 b70) (cleanS 1 ((firstReg b70).bind fn135.head)) k (S pre.length n f s c i pre z) =
        some (.exit 0,⟨[(0,.ref (0,0,0) 0 (pre.length + (encs (El.cores rest)).length) (some n)),(33,.sl f (El.avs s) c),(34,.int .i64 (s.length:Int)),(35,.int .i64 (s.length:Int)),(36,.bool false)],[((0,0,0),R (pre ++ encs (El.cores rest)) (z - (encs (El.cores rest)).length))]⟩)
  | [],i,pre,z,k,h1,h2,hp,hz,hk => by
    obtain ⟨k,rfl⟩:∃ j,k=j + 1:=⟨k - 1,by simp at hk; omega⟩
    obtain rfl:i=s.length:=by simpa using h2
    rw [aLoop_end (last K K pre.length n f s c pre z) (by simp)]
    simp [El.cores,encs]
  | x :: rest,i,pre,z,k,h1,h2,hp,hz,hk => by
    obtain ⟨k,rfl⟩:∃ j,k=j + 1:=⟨k - 1,by simp at hk; omega⟩
    have hx:s[i]? = some x:=by
      have:=congrArg (fun l => l[0]?) h1
      simpa [List.getElem?_drop] using this
    have hd:s.drop (i + 1)=rest:=by
      have:=congrArg List.tail h1
      simpa [List.tail_drop] using this
    rw [El.cores,encs,List.length_append] at hz
    have B:=fun own slot => op_put (own:=own) (slot:=slot) (cs:=ec x) rfl (R_keys pre z) (R_keys _ _) (R_rn pre z) (R_rn _ _) (W x (List.mem_of_getElem? hx) K (Nat.le_refl _) pre z n hp (by omega) hn)
    rw [aLoop_succ (round K K _ _ n f s c i pre _ z _ x hx ls B)]
    have q:=loop K n hn f s c ls W rest (i + 1) (pre ++ enc x.core) (z - (enc x.core).length) k hd (by simp at h2; omega) (by rw [List.length_append]; omega) (by omega) (by simp at hk; omega)
    rw [List.length_append] at q
    rw [q]
    simp only [El.cores,encs,List.length_append,List.append_assoc,Nat.add_assoc,Nat.sub_sub]
theorem puts:∀ e:El,e.ok → e.sm → vld e.core → (enc e.core).length ≤ 1048576 → ∃ N,Puts N e:=by
  refine El.ind fun e ih he hs hv hl => ?_
  obtain ⟨v1,v2,v3,v4⟩:=(vld_eq e).1 hv
  obtain ⟨s1,s2,s3⟩:=(El.sm_eq e).1 hs
  have tl:=tagO_len e.c e.k e.n
  have el:=enc_eq e
  obtain ⟨ct,hct⟩:∃ ct,e.b ++ encs (El.cores e.s)=ct:=⟨_,rfl⟩
  rw [hct] at el
  have lel:(enc e.core).length=(TG.tagO e.c e.k e.n).length + ((lenO (ct.length:Int)).length + ct.length):=by rw [el,List.length_append,List.length_append]
  have lct:ct.length=e.b.length + (encs (El.cores e.s)).length:=by rw [← hct,List.length_append]
  have sub_le:∀ x ∈ e.s,(enc x.core).length ≤ (encs (El.cores e.s)).length:=by
    intro x hx
    clear ih he hs hv hl v3 v4 el hct lel lct s2 s3
    generalize e.s=l at hx ⊢
    induction l with
    | nil => cases hx
    | cons y l ih =>
      rw [El.cores,encs,List.length_append]
      rcases List.mem_cons.1 hx with rfl | hx
      · omega
      · have:=ih hx; omega
  obtain ⟨N,hN⟩:=unif (P:=fun (x:El) (n:Nat) => Puts n x) (fun x n m h hm k hk => h k (by omega)) e.s (fun x hx => ih x hx (he.sub x hx) (s3 x hx) (vlds_all.1 v4 x hx) (by have:=sub_le x hx; omega))
  obtain ⟨M,r,C,c0,c1,c2,c3⟩:=E7.content_ok e he hs hv
  rw [hct] at c2 c3
  have re:=c2 (by omega)
  subst re
  have LP:=len_put (ct.length:Int) (by omega) (by omega)
  have TP:=E6.tag_put e.c e.k e.n he.cb.1 he.cb.2 he.nb.1 he.nb.2 v1
  refine ⟨N + M + e.s.length + 40,fun k hk pre z n hp hz hn => ?_⟩
  obtain ⟨K,rfl⟩:∃ K,k=K + 1:=⟨k - 1,by omega⟩
  rw [aRun_fn rfl E_fn135 rfl (Nat.le_of_ble_eq_true rfl),body_135,c135]
  have C':=C K (by omega) 0
  have LP':=LP K (by omega) 0
  have TP':=TP K (by omega) 0
  rw [El.av_eq] at C'
  obtain ⟨t,ht⟩:∃ t,TG.tagO e.c e.k e.n=t:=⟨_,rfl⟩
  obtain ⟨lo,hlo⟩:∃ lo,lenO (ct.length:Int)=lo:=⟨_,rfl⟩
  rw [ht] at TP' tl lel el
  rw [hlo] at LP' lel el
  have w1:=wc pre t z pre.length rfl (by omega)
  have w2:=wc (pre ++ t) lo (z - t.length) (pre.length + t.length) (by rw [List.length_append]) (by omega)
  have w3:=wc (pre ++ t ++ lo) e.b (z - t.length - lo.length) (pre.length + t.length + lo.length) (by rw [List.length_append,List.length_append]) (by omega)
  have lr:∀ (p:List Int) (y:Nat),(bs (p ++ List.replicate y 0)).length=p.length + y:=fun p y => by rw [bs_length,List.length_append,List.length_replicate]
  have g1:pre.length + t.length ≤ n:=by omega
  have g2:pre.length + (t.length + lo.length) ≤ n:=by omega
  have g3:pre.length + (t.length + (lo.length + e.b.length)) ≤ n:=by omega
  have g0:pre.length ≤ pre.length + z:=by omega
  have L:=loop K n hn e.fs e.s e.cs s2 (fun x hx => fun k hk => hN x hx k (by omega)) e.s 0 (pre ++ t ++ lo ++ e.b) (z - t.length - lo.length - e.b.length) K rfl (by simp) (by simp only [List.length_append]; omega) (by omega) (by omega)
  simp [b70,lp,lps,c135,firstReg,S,R,List.append_assoc,Nat.add_assoc,Nat.sub_sub] at L w1 w2 w3
  rw [el,← hct]
  simp [El.av_eq,-s_round,TP',LP',C',w1,w2,w3,lr,g1,g2,g3,L,List.append_assoc,Nat.add_assoc,Nat.sub_sub]
end E9
end
end
section
open Ab Go TabE
attribute [local simp ↓] s_seq s_reg s_regd s_cond s_block s_cons s_consG
attribute [local simp] s_nil s_loop s_round s_lpn s_lpe s_lpr firstReg s_gt s_gf s_wb s_wu s_val s_valN s_skip s_calls s_callP s_cax lookR flatR pureKs s_ret s_rgx s_sqn s_sqr s_sqe s_cdb s_bkn s_bkr s_bke s_exit s_ret' s_skip' s_finr s_finn s_fin1 s_fix s_clean s_gc0 o_tmp o_int o_bool o_nil o_str o_fn o_nil' l_hit l_miss l_nil ol_nil ol_cons ol_some x_move x_assign x_pick pk_t pk_f x_bin bn_s x_un x_extract x_callF cl_no x_callB x_callBF frzV x_conv cvx convA frame0 binA intOp resL resA results1 sealLW AV.pure AV.pureL keepT x_alloc x_box bxx x_build bdx x_buildSlice bsx x_buildSliceF bsf x_load ldx x_store stx x_slice slx x_fieldAddr x_field x_index ixx x_indexAddr iax x_makeSlice msx x_makeSliceF msf x_nilCheck newK genOf setK lookK fillA writeL writeC readC conts TyI.mk1 sliceA boundsA boundsB fitsA numA indexAddrA fieldAddrA partA fieldA indexA appendA copyA builtinA AV.cells chunk gcH reach keysT keepK inKs AV.keys AV.keysL Ty.isAgg eq1 eqL convA.go ltI w_u8 w_u32 w_u64 w_i64 w_fdiv w_tdiv w_tmod IntKind.bits unA sc_int sc_bool sc_str sc_sl sc_ref sc_ptr sc_pel sc_nilp sc_fn sc_nilf sc_if sc_nili sc_agg sc_tup sc_mem bs_pure bs_kl bs_length bs_cells bs_all sl_row sealRow sealY sl_int sl_bool sl_str sl_sl sl_nilp sl_nilf sl_nili sl_pel sl_agg sl_tup sl_fn sl_if nat_1 bs_cons bs_nil i_beq i_bne x_mkF x_mkI x_tassert x_panic s_pan s_sqp s_bkp s_finp s_fixp s_lpp s_rgp s_retp s_site s_stxN s_stxO x_callT clx El.avs_len
section
open Ab Go TabE Sp E8
namespace E10
theorem check (e:El) (he:e.ok):∃ N,Con E N 22 [e.av] (.int .i64 (chk e.core 1 0 0).1):=by
  obtain ⟨N,M⟩:=E5.measure e he
  have e1:(E5.meas e).1=(chk e.core 1 0 0).1:=by unfold E5.meas; split <;> simp_all
  rw [e1] at M
  have M':=M (N + 10) (by omega) 0
  rw [El.av_eq] at M'
  refine ⟨N + 10 + 1,con_of E_fn22 (by simp [AV.pureL,El.av_pure]) (Nat.le_of_ble_eq_true rfl) rfl rfl (g:=[]) ?_⟩
  rw [body_22,c22]
  simp [El.av_eq,M']
theorem op_new {run:RunF} {slot:Nat} {cs ds:List AV} {n:Nat} {o o':AObj} (hp:AV.pureL cs=true) (k1:AV.keysL o.cells=[]) (k2:AV.keysL o'.cells=[]) (r1:∀ φ,AV.rnL φ o.cells=o.cells) (r2:∀ φ,AV.rnL φ o'.cells=o'.cells)
    (hr:run 135 [.ref (0,0,0) 0 0 (some n),.agg cs] [((0,0,0),o)]=some (.ret (.ref (0,0,0) 0 n (some n)),[((0,0,0),o')])) :
    opened [true,false] false run slot 135 [.ref (1,16,0) 0 0 (some n),.agg cs] [((1,1,0),bx ds),((1,16,0),o)]=some (.ret (.ref (1,16,0) 0 n (some n)),[((1,1,0),bx ds),((1,16,0),o')]):=by
  have e1:sealM (sealA 20) [true,false] [((1,1,0),bx ds),((1,16,0),o)] [.ref (1,16,0) 0 0 (some n),.agg cs]=some ([.ref (1,16,0) 0 0 (some n),.agg cs],[((1,1,0),bx ds),((1,16,0),o)]):=by
    simp [sealM,sl_agg,hp]
  have kc:AV.keysL cs=[]:=AV.keysL_pure _ hp
  have rc:∀ φ,AV.rnL φ cs=cs:=fun φ => rnL_pure cs hp
  unfold opened
  rw [e1]
  have e2:AV.keysL [.ref (1,16,0) 0 0 (some n),.agg cs]=[(1,16,0)]:=by simp [AV.keysL,AV.keys,kc]
  simp only [e2]
  have e3:dd (reach [((1,1,0),bx ds),((1,16,0),o)] 3 [(1,16,0)])=[(1,16,0)]:=by simp [reach,lookK,k1,dd]
  rw [e3]
  unfold lendA
  have e4:lendH [((1,1,0),bx ds),((1,16,0),o)] (inK [(1,16,0)]) [(1,16,0)]=some [((0,0,0),o)]:=by simp [lendH,lookK,inK,posK,r1]
  rw [e4]
  simp only [e2]
  have e6:closedH [((1,1,0),bx ds),((1,16,0),o)] [(1,16,0)] [(1,16,0)]=true:=by simp [closedH,lookK,k1]
  rw [if_pos ⟨e6,by rfl⟩]
  have e5:AV.rnL (inK [(1,16,0)]) [.ref (1,16,0) 0 0 (some n),.agg cs]=[.ref (0,0,0) 0 0 (some n),.agg cs]:=by simp [AV.rnL,AV.rn,rc,inK,posK]
  rw [e5,hr]
  have e7:dd (reach [((0,0,0),o')] 3 ([(0,0,0)] ++ [(0,0,0)]))=[(0,0,0)]:=by simp [reach,lookK,k2,dd]
  have e8:AV.keysL [AV.ref (0,0,0) 0 n (some n)]=[(0,0,0)]:=rfl
  have e9:lentKs 1=[(0,0,0)]:=rfl
  have e10:closedH [((0,0,0),o')] [(0,0,0)] [(0,0,0)]=true:=by simp [closedH,lookK,k2]
  simp only [backR,Bool.false_eq_true,if_false,backV,back,List.length_singleton,e8,e9,e7,backA]
  rw [if_pos ⟨e10,by rfl,by rfl,by rfl⟩]
  simp [AV.rnL,AV.rn,outK,putAll,lookK,setK,r2]
theorem put_ok (e:El) (he:e.ok) (hs:e.sm) (h:(chk e.core 1 0 0).1=0) (hl:(enc e.core).length ≤ 1048576):∃ N,Con E N 95 [e.av] (.tup [.sl false (bs (enc e.core)) (some (enc e.core).length),.int .i64 0]):=by
  have hv:=vld_of _ _ _ _ h
  obtain ⟨N,C⟩:=check e he
  obtain ⟨M,r,S,s1,s2,s3,s4⟩:=E7.size e he hs hv
  obtain ⟨Q,P⟩:=E9.puts e he hs hv hl
  rw [h] at C
  have:=s3 (by omega)
  subst this
  have C':=C (N + M + Q + 10) (by omega) 0
  have S':=S (N + M + Q + 10) (by omega) 0
  rw [El.av_eq] at C' S'
  have P':=fun ds slot => op_new (ds:=ds) (slot:=slot) (cs:=ec e) rfl (R_keys [] (enc e.core).length) (R_keys _ _) (R_rn _ _) (R_rn _ _) (by have:=P (N + M + Q + 10) (by omega) [] (enc e.core).length (enc e.core).length (by simp) (by omega) (by omega); simpa using this)
  have q2:¬ (1048576 < ((enc e.core).length:Int)):=by omega
  have q3:¬ (1048576 < (enc e.core).length):=by omega
  refine ⟨N + M + Q + 10 + 1,con_ofO E_fn95 (by simp [AV.pureL,El.av_pure]) (Nat.le_of_ble_eq_true rfl) rfl (g:=[]) ?_⟩
  rw [body_95,c95]
  simp [R] at P'
  have zr:List.replicate (enc e.core).length (AV.int .u8 0)=bs (List.replicate (enc e.core).length 0):=by simp [bs]
  have cp:((enc e.core).length:Int) ≤ 70368744177664:=by omega
  simp [El.av_eq,C',S',q2,q3,P',zr,cp,s_regB,barX,bindS,barOf]
end E10
end
end
section
open Ab Go TabE Sp
namespace Sp
mutual
def dep:Cr → Int
  | .mk _ _ _ _ s => deps s + 1
def deps:List Cr → Int
  | [] => 0
  | x :: r => max (dep x) (deps r)
end
mutual
def many:Cr → Int → Int
  | .mk _ _ _ _ s,m => if m ≤ 0 then 1 else manys s m 1
def manys:List Cr → Int → Int → Int
  | [],m,n => n
  | x :: r,m,n => if n ≤ m then manys r m (n + many x (m - n)) else n
end
theorem dep_eq (e:El):dep e.core=deps (El.cores e.s) + 1:=by rw [El.core_eq,dep]
mutual
theorem dep_pos:∀ c:Cr,1 ≤ dep c
  | .mk _ _ _ _ s => by unfold dep; have:=deps_pos s; omega
theorem deps_pos:∀ s:List Cr,0 ≤ deps s
  | [] => by unfold deps; omega
  | x :: r => by unfold deps; have:=deps_pos r; omega
end
end Sp
namespace E12
theorem deps_mem {x:El}:∀ {l:List El},x ∈ l → dep x.core ≤ deps (El.cores l)
  | y :: l,h => by
    rw [El.cores,deps]
    rcases List.mem_cons.1 h with rfl | h
    · omega
    · have:=deps_mem h; omega
end E12
end
section
open Ab Go TabE Sp
namespace E17
theorem enc_ne (e:El):enc e.core ≠ []:=by
  intro h
  have:=congrArg List.length h
  rw [enc_eq,List.length_append] at this
  have t:=tagO_len e.c e.k e.n
  simp only [List.length_nil] at this
  omega
end E17
end
section
open Ab Go TabE Sp
namespace Sp
mutual
def cnt:Cr → Int
  | .mk _ _ _ _ s => 1 + cnts s
def cnts:List Cr → Int
  | [] => 0
  | x :: r => cnt x + cnts r
end
theorem cnt_eq (e:El):cnt e.core=1 + cnts (El.cores e.s):=by rw [El.core_eq,cnt]
mutual
theorem cnt_pos:∀ c:Cr,1 ≤ cnt c
  | .mk _ _ _ _ s => by unfold cnt; have:=cnts_pos s; omega
theorem cnts_pos:∀ s:List Cr,0 ≤ cnts s
  | [] => by unfold cnts; omega
  | x :: r => by unfold cnts; have:=cnt_pos x; have:=cnts_pos r; omega
end
mutual
theorem chk_dep:∀ (c:Cr) (d m l:Int),(chk c d m l).1=0 → (chk c d m l).2.2=max l (d + dep c - 1) ∧ (chk c d m l).2.1=m + cnt c ∧ d ≤ 16
  | .mk c k n b s,d,m,l,h => by
    unfold chk at h ⊢
    unfold dep cnt
    by_cases h1:tagE c k n=0
    case neg => rw [if_pos h1] at h; exact absurd h h1
    rw [if_neg (by simp [h1])] at h ⊢
    by_cases h2:(k=true ∧ b ≠ []) ∨ (k=false ∧ s ≠ [])
    · rw [if_pos h2] at h; cases h
    rw [if_neg h2] at h ⊢
    by_cases h3:16 < d
    · rw [if_pos h3] at h; cases h
    rw [if_neg h3] at h ⊢
    by_cases h4:m=8192
    · rw [if_pos h4] at h; cases h
    rw [if_neg h4] at h ⊢
    have dp:=deps_pos s
    have:=chks_dep s (d + 1) (m + 1) (max l d) (by omega) h
    omega
theorem chks_dep:∀ (s:List Cr) (d m l:Int),d - 1 ≤ l → (chks s d m l).1=0 → (chks s d m l).2.2=max l (d + deps s - 1) ∧ (chks s d m l).2.1=m + cnts s
  | [],d,m,l,hl,_ => by unfold chks deps cnts; simp only; omega
  | x :: r,d,m,l,hl,h => by
    unfold chks at h ⊢
    unfold deps cnts
    by_cases h1:(chk x d m l).1=0
    · rw [if_neg (by simp [h1])] at h ⊢
      have a:=chk_dep x d m l h1
      have b:=chks_dep r d _ _ (by omega) h
      have:=dep_pos x
      have:=deps_pos r
      omega
    · rw [if_pos h1] at h; exact absurd h h1
end
end Sp
namespace E18
inductive Fw (B:Nat):El → Prop
  | mk (e:El):e.b.length ≤ B → (∀ x ∈ e.s,Fw B x) → Fw B e
theorem fw_len {B:Nat}:∀ e:El,Fw B e → ((enc e.core).length:Int) ≤ (B + 9) * cnt e.core:=by
  refine El.ind fun e ih h => ?_
  obtain ⟨_,h1,h2⟩:=h
  rw [enc_eq,cnt_eq,List.length_append,List.length_append,List.length_append]
  have tl:=tagO_len e.c e.k e.n
  have ll:=lenO_len ((e.b ++ encs (El.cores e.s)).length:Int)
  have key:∀ l:List El,(∀ x ∈ l,((enc x.core).length:Int) ≤ (B + 9) * cnt x.core) → ((encs (El.cores l)).length:Int) ≤ (B + 9) * cnts (El.cores l):=by
    intro l
    induction l with
    | nil => intro _; simp [El.cores,encs,cnts]
    | cons y l ih =>
      intro q
      rw [El.cores,encs,cnts,List.length_append,Int.mul_add]
      have a:=q y (by simp)
      have b:=ih fun x hx => q x (by simp [hx])
      omega
  have k:=key e.s fun x hx => ih x hx (h2 x hx)
  rw [Int.mul_add,Int.mul_one]
  rw [List.length_append] at ll
  omega
theorem fw_sm {B:Nat} (hB:B ≤ 1000000000):∀ e:El,Fw B e → cnt e.core ≤ 1000000000 → e.sm:=by
  refine El.ind fun e ih h hc => ?_
  obtain ⟨_,h1,h2⟩:=h
  rw [cnt_eq] at hc
  have key:∀ l:List El,(l.length:Int) ≤ cnts (El.cores l) ∧ ∀ x ∈ l,cnt x.core ≤ cnts (El.cores l):=by
    intro l
    induction l with
    | nil => simp [El.cores,cnts]
    | cons y l ih =>
      rw [El.cores,cnts]
      have:=cnt_pos y.core
      have:=cnts_pos (El.cores l)
      refine ⟨by rw [List.length_cons]; omega,fun x hx => ?_⟩
      rcases List.mem_cons.1 hx with rfl | hx
      · omega
      · have:=ih.2 x hx; omega
  obtain ⟨k1,k2⟩:=key e.s
  exact (El.sm_eq e).2 ⟨by omega,by omega,fun x hx => ih x hx (h2 x hx) (by have:=k2 x hx; omega)⟩
end E18
end
section
open Ab Go TabE Sp
namespace E20
def tn (c k n:Int):Int:=if tagE (c % 4) (decide (k % 2=1)) (n % 268435456)=0 then n % 268435456 else 4
end E20
end
section
open Ab Go TabE
namespace Ab
namespace El
def fl:List El → List AV
  | [] => []
  | e :: r => ec e ++ fl r
theorem fl_app:∀ a b,fl (a ++ b)=fl a ++ fl b
  | [],b => rfl
  | e :: a,b => by simp only [List.cons_append,fl,fl_app a b,List.append_assoc]
theorem fl_snoc (a:List El) (e:El):fl (a ++ [e])=fl a ++ [.int .u8 e.c,.bool e.k,.int .u32 e.n,.sl e.fb (bs e.b) e.cb,.sl e.fs (avs e.s) e.cs]:=by rw [fl_app]; rfl
theorem fl_one (e:El):fl [e]=[.int .u8 e.c,.bool e.k,.int .u32 e.n,.sl e.fb (bs e.b) e.cb,.sl e.fs (avs e.s) e.cs]:=rfl
theorem fl_mk1 (c k n fb b cb fs s cs):fl [El.mk c k n fb b cb fs s cs]=[.int .u8 c,.bool k,.int .u32 n,.sl fb (bs b) cb,.sl fs (avs s) cs]:=rfl
theorem fl_mkS (a:List El) (c k n fb b cb fs s cs):fl (a ++ [El.mk c k n fb b cb fs s cs])=fl a ++ [.int .u8 c,.bool k,.int .u32 n,.sl fb (bs b) cb,.sl fs (avs s) cs]:=by rw [fl_app]; rfl
theorem chk_bs (y:List Int):chunk false 1 y.length (bs y)=bs y:=by
  have:=chunk_one (bs y)
  rwa [bs_len] at this
theorem fl_len:∀ l,(fl l).length=l.length * 5
  | [] => rfl
  | e :: r => by simp only [fl,List.length_append,fl_len r,List.length_cons,ec]; simp; omega
theorem fl_pure:∀ l,AV.pureL (fl l)=true
  | [] => rfl
  | e :: r => by simp only [fl,ec,List.cons_append,List.nil_append,AV.pureL,AV.pure,Bool.and_self,fl_pure r]
theorem fl_keys (l):AV.keysL (fl l)=[]:=AV.keysL_pure _ (fl_pure l)
theorem keysL_app:∀ a b:List AV,AV.keysL (a ++ b)=AV.keysL a ++ AV.keysL b
  | [],b => rfl
  | x :: a,b => by simp only [List.cons_append,AV.keysL,keysL_app a b,List.append_assoc]
theorem fl_keysr (l) (r:List AV):AV.keysL (fl l ++ r)=AV.keysL r:=by rw [keysL_app,fl_keys]; rfl
theorem fl_take:∀ (k:Nat) (l:List El),(fl l).take (k * 5)=fl (l.take k)
  | 0,l => by simp [fl]
  | k + 1,[] => by simp [fl]
  | k + 1,e :: r => by
    have:(k + 1) * 5=k * 5 + 5:=by omega
    rw [List.take_succ_cons]
    show (ec e ++ fl r).take _=ec e ++ fl (r.take k)
    rw [← fl_take k r,this]
    rfl
theorem fl_chunk:∀ (l:List El),chunk true 5 l.length (fl l)=avs l
  | [] => rfl
  | e :: r => by
    rw [List.length_cons,chunk,avs,av_eq,← fl_chunk r]
    rfl
theorem fl_scal:∀ l,(fl l).all AV.scal=true
  | [] => rfl
  | e :: r => by rw [fl,List.all_append,fl_scal r]; rfl
end El
end Ab
end
section
open Ab Go TabE Sp E20
namespace E22
structure G where
  a:Int
  b:Int
  c:Int
  k:Int
  n:Int
  f:Bool
  x:List Int
  q:Option Nat
def G.av (g:G):AV:=.agg [.int .u8 g.a,.int .u8 g.b,.int .u8 g.c,.int .u8 g.k,.int .u32 g.n,.sl g.f (bs g.x) g.q]
def G.ok (g:G):Prop:=(0 ≤ g.a ∧ g.a < 256) ∧ (0 ≤ g.b ∧ g.b < 256) ∧ (0 ≤ g.c ∧ g.c < 256) ∧ (0 ≤ g.k ∧ g.k < 256) ∧ (0 ≤ g.n ∧ g.n < 4294967296) ∧ isB g.x ∧ g.x.length ≤ 9223372036854775807
def leaf (g:G):El:=.mk (g.c % 4) false (tn g.c 0 g.n) (decide (g.x=[])) (g.x.take 20) (if g.x=[] then some 0 else none) true [] (some 0)
end E22
end
section
open Ab Go TabE Sp E20 E22
namespace E23
abbrev nd (g:G) (d:List El):El:=.mk (g.c % 4) true (tn g.c 1 g.n) true [] (some 0) (decide (d=[])) d (if d=[] then some 0 else none)
def kk (g:G) (n:Nat):Nat:=if g.a % 3=2 then n else min (g.b % 5).toNat n
end E23
end
section
open Ab Go TabE Sp E18 E20 E22 E23
namespace Sp
mutual
theorem chk_of:∀ (c:Cr) (d m l:Int),vld c → d + dep c ≤ 17 → m + cnt c ≤ 8192 → (chk c d m l).1=0
  | .mk c k n b s,d,m,l,hv,hd,hm => by
    unfold vld at hv
    unfold dep at hd
    unfold cnt at hm
    obtain ⟨h1,h2,h3,h4⟩:=hv
    have:=deps_pos s
    have:=cnts_pos s
    unfold chk
    rw [if_neg (by simp [h1]),if_neg (by
      intro h
      rcases h with ⟨a,b⟩ | ⟨a,b⟩
      · exact b (h2 a)
      · exact b (h3 a)),if_neg (by omega),if_neg (by omega)]
    exact chks_of s (d + 1) (m + 1) (max l d) h4 (by omega) (by omega)
theorem chks_of:∀ (s:List Cr) (d m l:Int),vlds s → d + deps s ≤ 17 → m + cnts s ≤ 8192 → (chks s d m l).1=0
  | [],_,_,_,_,_,_ => rfl
  | x :: r,d,m,l,hv,hd,hm => by
    unfold vlds at hv
    unfold deps at hd
    unfold cnts at hm
    have:=deps_pos r
    have:=cnts_pos r
    have a:=chk_of x d m l hv.1 (by omega) (by omega)
    unfold chks
    rw [if_neg (by simp [a])]
    have b:=(chk_dep x d m l a).2.1
    exact chks_of r d _ _ hv.2 (by omega) (by rw [b]; omega)
end
theorem cnts_len:∀ a:List El,(a.length:Int) ≤ cnts (El.cores a)
  | [] => by simp [El.cores,cnts]
  | x :: a => by
    rw [El.cores,cnts,List.length_cons]
    have:=cnt_pos x.core
    have:=cnts_len a
    omega
end Sp
namespace E26
def nx (st:List El) (g:G):List El:=if g.a % 3=0 then st ++ [leaf g] else if dep (nd g (st.drop (st.length - kk g st.length))).core < 15 then st.take (st.length - kk g st.length) ++ [nd g (st.drop (st.length - kk g st.length))] else st
def sq (l:List G):Nat → List El
  | 0 => []
  | i + 1 => match l[i]? with
    | some g => nx (sq l i) g
    | none => sq l i
structure W (x:El):Prop where
  ok:x.ok
  vld:vld x.core
  dep:dep x.core ≤ 14
  fw:Fw 20 x
structure Good (x:El):Prop where
  ok:x.ok
  vld:vld x.core
  dep:dep x.core ≤ 15
  fw:Fw 20 x
  cnt:cnt x.core ≤ 40
theorem Good.chk {x:El} (h:Good x):(chk x.core 1 0 0).1=0:=chk_of _ _ _ _ h.vld (by have:=h.dep; omega) (by have:=h.cnt; omega)
theorem Good.sm {x:El} (h:Good x):x.sm:=fw_sm (by omega) x h.fw (by have:=h.cnt; omega)
theorem Good.len {x:El} (h:Good x):(enc x.core).length ≤ 1160:=by
  have:=fw_len x h.fw
  have:=h.cnt
  omega
end E26
end
section
open Ab Go TabE
attribute [local simp ↓] s_seq s_reg s_regd s_cond s_block s_cons s_consG
attribute [local simp] s_nil s_loop s_round s_lpn s_lpe s_lpr firstReg s_gt s_gf s_wb s_wu s_val s_valN s_skip s_calls s_callP s_cax lookR flatR pureKs s_ret s_rgx s_sqn s_sqr s_sqe s_cdb s_bkn s_bkr s_bke s_exit s_ret' s_skip' s_finr s_finn s_fin1 s_fix s_clean s_gc0 o_tmp o_int o_bool o_nil o_str o_fn o_nil' l_hit l_miss l_nil ol_nil ol_cons ol_some x_move x_assign x_pick pk_t pk_f x_bin bn_s x_un x_extract x_callF cl_no x_callB x_callBF frzV x_conv cvx convA frame0 binA intOp resL resA results1 sealLW AV.pure AV.pureL keepT x_alloc x_box bxx x_build bdx x_buildSlice bsx x_buildSliceF bsf x_load ldx x_store stx x_slice slx x_fieldAddr x_field x_index ixx x_indexAddr iax x_makeSlice msx x_makeSliceF msf x_nilCheck newK genOf setK lookK fillA writeL writeC readC conts TyI.mk1 sliceA boundsA boundsB fitsA numA indexAddrA fieldAddrA partA fieldA indexA appendA copyA builtinA AV.cells chunk gcH reach keysT keepK inKs AV.keys AV.keysL Ty.isAgg eq1 eqL convA.go ltI w_u8 w_u32 w_u64 w_i64 w_fdiv w_tdiv w_tmod IntKind.bits unA sc_int sc_bool sc_str sc_sl sc_ref sc_ptr sc_pel sc_nilp sc_fn sc_nilf sc_if sc_nili sc_agg sc_tup sc_mem bs_pure bs_kl bs_length bs_cells bs_all sl_row sealRow sealY sl_int sl_bool sl_str sl_sl sl_nilp sl_nilf sl_nili sl_pel sl_agg sl_tup sl_fn sl_if nat_1 bs_cons bs_nil i_beq i_bne x_mkF x_mkI x_tassert x_panic s_pan s_sqp s_bkp s_finp s_fixp s_lpp s_rgp s_retp s_site s_stxN s_stxO x_callT clx El.avs_len
section
open Ab Go TabE Sp
namespace E31
theorem clone (f:Bool) (b:List Int) (c:Option Nat) (hn:f=true → b=[]) (hl:b.length ≤ 70368744177664):∃ c',(c'=none ∨ c'=some b.length) ∧ Con E 20 155 [.sl f (bs b) c] (.sl f (bs b) c'):=by
  cases hf:f with
  | true =>
    have hb:=hn hf
    subst hb
    refine ⟨some 0,.inr rfl,con_of E_fn155 (by simp [AV.pureL,AV.pure]) (Nat.le_of_ble_eq_true rfl) rfl rfl (g:=[]) ?_⟩
    rw [body_155,c155]
    simp [bs_nil]
  | false =>
    by_cases hb:b=[]
    · subst hb
      refine ⟨some 0,.inr rfl,con_of E_fn155 (by simp [AV.pureL,AV.pure]) (Nat.le_of_ble_eq_true rfl) rfl rfl (g:=[]) ?_⟩
      rw [body_155,c155]
      simp [bs_nil]
    · refine ⟨none,.inl rfl,con_of E_fn155 (by simp [AV.pureL,AV.pure]) (Nat.le_of_ble_eq_true rfl) rfl rfl (g:=[]) ?_⟩
      rw [body_155,c155]
      simp [hb,hl]
theorem clip (f:Bool) (b:List Int) (c:Option Nat) (hc:c=none ∨ c=some b.length):Con E 20 131 [.sl f (bs b) c] (.sl f (bs b) (some b.length)):=by
  refine con_of E_fn131 (by simp [AV.pureL,AV.pure]) (Nat.le_of_ble_eq_true rfl) rfl rfl (g:=[]) ?_
  rw [body_131,c131]
  have t:(bs b).take b.length=bs b:=by rw [List.take_of_length_le]; rw [bs_len]; exact Nat.le_refl _
  rcases hc with rfl | rfl <;> simp [t]
inductive Nn:El → Prop
  | mk (e:El):(e.fb=true → e.b=[]) → (e.fs=true → e.s=[]) → (∀ x ∈ e.s,Nn x) → Nn e
end E31
end
end
section
open Ab Go TabE Sp E31
namespace E32
theorem sealX_fl (n:Nat) (h:Heap) (key:Key) (st:List El) (cap:Option Nat) (mt ex:Bool) (hk:lookK h key=some ⟨El.fl st,true,mt,ex,5,true⟩):sealX (n + 2) h (.ref key 0 st.length cap)=some (.sl false (El.avs st) cap,setK h key ⟨El.fl st,true,false,ex,5,true⟩):=by
  unfold sealX sealA
  have hp:(AV.ref key 0 st.length cap).pure=false:=rfl
  have f3:(El.fl st).take (st.length * 5)=El.fl st:=by rw [El.fl_take,List.take_length]
  simp only [hp,Bool.false_eq_true,if_false,hk]
  rw [if_pos ⟨trivial,by rw [El.fl_len]; omega,by simp⟩]
  simp only [List.drop_zero,f3]
  rw [sealL_of_pure n _ _ (El.fl_pure st)]
  simp only [El.fl_chunk]
end E32
end
section
open Ab Go TabE Sp E31 E32
namespace E34
abbrev ns (ps:List Int):List AV:=ps.map (AV.int .i64)
theorem int_at (f c) (ps:List Int) (i:Nat) (p:Int) (h:ps[i]? = some p):∀ hp,indexAddrA E 38 (.sl f (ns ps) c) (.int .i64 i) hp=some (.pel [.int .i64 p]):=by
  intro hp
  have hi:i < ps.length:=(List.getElem?_eq_some_iff.1 h).1
  unfold indexAddrA
  simp only [E_ty38,E_ty3]
  rw [if_pos ⟨by omega,by rw [List.length_map]; omega⟩]
  simp only [Int.toNat_natCast,ns,List.getElem?_map,h,Option.map_some]
  rfl
def walk:El → List Int → Option El
  | e,[] => some e
  | e,p :: r => if p < 0 then none else match e.s[p.toNat]? with
    | some x => walk x r
    | none => none
abbrev S (f:Bool) (ps:List Int) (c:Option Nat) (i:Nat) (x:El):St:=⟨[(2,.ptr (1,2,0) 0),(4,.ptr (1,4,0) 0),(15,.sl f (ns ps) c),(16,.int .i64 (ps.length:Int)),(17,.int .i64 (i:Int))],[((1,2,0),bx (ec x)),((1,4,0),bx [.int .u8 0,.bool false,.int .u32 0,.sl true [] (some 0),.sl true [] (some 0)])]⟩
abbrev Bad:AExit × St:=(.ret,⟨[(4,.ptr (1,4,0) 0),(5,.int .i64 19)],[((1,4,0),bx [.int .u8 0,.bool false,.int .u32 0,.sl true [] (some 0),.sl true [] (some 0)])]⟩)
end E34
end
section
open Ab Go TabE
attribute [local simp ↓] s_seq s_reg s_regd s_cond s_block s_cons s_consG s_regD
attribute [local simp] s_nil s_loop s_round s_lpn s_lpe s_lpr firstReg s_gt s_gf s_wb s_wu s_val s_valN s_skip s_calls s_callP s_cax lookR flatR pureKs s_ret s_rgx s_sqn s_sqr s_sqe s_cdb s_bkn s_bkr s_bke s_exit s_ret' s_skip' s_finr s_finn s_fin1 s_fix s_clean s_gc0 o_tmp o_int o_bool o_nil o_str o_fn o_nil' l_hit l_miss l_nil ol_nil ol_cons ol_some x_move x_assign x_pick pk_t pk_f x_bin bn_s x_un x_extract x_callF cl_no x_callB x_callBF frzV x_conv cvx convA frame0 binA intOp resL resA results1 sealLW AV.pure AV.pureL keepT x_alloc x_box bxx x_build bdx x_buildSlice bsx x_buildSliceF bsf x_load ldx x_store stx x_slice slx x_fieldAddr x_field x_index ixx x_indexAddr iax x_makeSlice msx x_makeSliceF msf x_nilCheck newK genOf setK lookK fillA writeL writeC readC conts TyI.mk1 sliceA boundsA boundsB fitsA numA indexAddrA fieldAddrA partA fieldA indexA appendA copyA builtinA AV.cells chunk gcH reach keysT keepK inKs AV.keys AV.keysL Ty.isAgg eq1 eqL convA.go ltI w_u8 w_u32 w_u64 w_i64 w_fdiv w_tdiv w_tmod IntKind.bits unA sc_int sc_bool sc_str sc_sl sc_ref sc_ptr sc_pel sc_nilp sc_fn sc_nilf sc_if sc_nili sc_agg sc_tup sc_mem bs_pure bs_kl bs_length bs_cells bs_all sl_row sealRow sealY sl_int sl_bool sl_str sl_sl sl_nilp sl_nilf sl_nili sl_pel sl_agg sl_tup sl_fn sl_if nat_1 bs_cons bs_nil i_beq i_bne x_mkF x_mkI x_tassert x_panic s_pan s_sqp s_bkp s_finp s_fixp s_lpp s_rgp s_retp s_site s_stxN s_stxO x_callT clx El.avs_len s_dyn0 s_rgy barOf dynChk footL dynOK disjK keysOp opVals Op.operands
section
open Ab Go TabE Sp E34
namespace F1
def tg (x:Int):Int × Bool × Int:=if x % 8=0 then (0,true,16) else if x % 8=1 then (0,true,17) else if x % 8=2 then (2,true,x / 8 % 4 * 12) else if x % 8=3 then (2,false,x / 8 % 4) else if x % 8=4 then (0,false,1) else if x % 8=5 then (0,false,4) else (0,false,2)
theorem tag (x:Int) (h0:0 ≤ x) (h1:x < 256):Con E 10 128 [.int .u8 x] (.agg [.int .u8 (tg x).1,.bool (tg x).2.1,.int .u32 (tg x).2.2]):=by
  refine con_of E_fn128 rfl (Nat.le_of_ble_eq_true rfl) rfl rfl (g:=[]) ?_
  rw [body_128,c128]
  have t1:Int.tmod x 8=x % 8:=Int.tmod_eq_emod_of_nonneg h0
  have t2:Int.tdiv x 8=x / 8:=Int.tdiv_eq_ediv_of_nonneg h0
  have t3:Int.tmod (x / 8) 4=x / 8 % 4:=Int.tmod_eq_emod_of_nonneg (by omega)
  have w1:(x / 8) % 256=x / 8:=Int.emod_eq_of_lt (by omega) (by omega)
  have w2:(x / 8 % 4) % 4294967296=x / 8 % 4:=Int.emod_eq_of_lt (by omega) (by omega)
  have w3:(x / 8 % 4 * 12) % 4294967296=x / 8 % 4 * 12:=Int.emod_eq_of_lt (by omega) (by omega)
  have m:x % 8=0 ∨ x % 8=1 ∨ x % 8=2 ∨ x % 8=3 ∨ x % 8=4 ∨ x % 8=5 ∨ x % 8=6 ∨ x % 8=7:=by omega
  unfold tg
  rcases m with m | m | m | m | m | m | m | m <;> simp [m,t1,t2,t3,w1,w2,w3]
theorem ns_len (ps:List Int):(ns ps).length=ps.length:=List.length_map ..
theorem ns_pure:∀ ps:List Int,AV.pureL (ns ps)=true
  | [] => rfl
  | p :: r => by have:=ns_pure r; simpa [ns,AV.pureL,AV.pure] using this
theorem ns_keys (ps):AV.keysL (ns ps)=[]:=AV.keysL_pure _ (ns_pure ps)
theorem ns_scal:∀ ps:List Int,(ns ps).all AV.scal=true
  | [] => rfl
  | p :: r => by have:=ns_scal r; simp [ns,AV.scal]
theorem ns_app (a b):ns (a ++ b)=ns a ++ ns b:=List.map_append ..
def b49:Code:=lp c20 0
abbrev S49 (a b:El) (i:Nat):St:=⟨[(2,.ptr (1,2,0) 0),(3,.ptr (1,3,0) 0),(5,.int .i64 (i:Int))],[((1,2,0),bx (ec a)),((1,3,0),bx (ec b))]⟩
theorem go49 (q k1:Nat) (a b x y:El) (i:Nat) (hx:a.s[i]? = some x) (hy:b.s[i]? = some y) (le:a.s.length ≤ 9223372036854775807) (B:∀ h,aCall E q 0 20 [x.av,y.av] h=some (.ret (.int .i64 1),h)) :
    rnd fn20 b49 q k1 (S49 a b i)=some (.normal,S49 a b (i + 1)):=by
  have hi:i < a.s.length:=(List.getElem?_eq_some_iff.1 hx).1
  have ix:=fun hp => El.at_ a.fs a.cs a.s i x hx hp
  have iy:=fun hp => El.at_ b.fs b.cs b.s i y hy hp
  have w:=w64' ((i:Int) + 1) (by omega) (by omega)
  rw [El.av_eq,El.av_eq] at B
  simp [b49,lp,lps,c20,-indexAddrA,ix,iy,w,B,hi]
theorem last49 (q k1:Nat) (a b:El):rnd fn20 b49 q k1 (S49 a b a.s.length)=some (.exit 0,⟨[(2,.ptr (1,2,0) 0),(3,.ptr (1,3,0) 0),(5,.int .i64 (a.s.length:Int)),(33,.bool false)],(S49 a b a.s.length).h⟩):=by
  simp [b49,lp,lps,c20]
theorem same:∀ a:El,∀ b:El,a.ok → a.core=b.core → ∃ N,Con E N 20 [a.av,b.av] (.int .i64 1):=by
  refine El.ind fun a ih b ha hc => ?_
  obtain ⟨e1,e2,e3,e4,e5⟩:=El.core_inj.1 hc
  have ll:=El.cores_len e5
  obtain ⟨N,hN⟩:=unif (P:=fun (i n:Nat) => ∀ x y:El,a.s[i]? = some x → b.s[i]? = some y → Con E n 20 [x.av,y.av] (.int .i64 1)) (fun i n m h hm x y hx hy k hk => h x y hx hy k (Nat.le_trans hm hk)) (List.range a.s.length) (fun i hi => by
    have hi':i < a.s.length:=List.mem_range.1 hi
    obtain ⟨x,hx⟩:∃ x,a.s[i]? = some x:=⟨a.s[i],by simp⟩
    obtain ⟨y,hy⟩:∃ y,b.s[i]? = some y:=⟨b.s[i]'(by omega),List.getElem?_eq_getElem _⟩
    have mx:=List.mem_of_getElem? hx
    obtain ⟨n,hn⟩:=ih x mx y (ha.sub x mx) (El.cores_get e5 hx hy)
    exact ⟨n,fun x' y' hx' hy' => by rw [hx] at hx'; rw [hy] at hy'; cases hx'; cases hy'; exact hn⟩)
  obtain ⟨K,hK⟩:∃ K,N + a.s.length + 10=K:=⟨_,rfl⟩
  refine ⟨K + 1,con_of E_fn20 (by simp [AV.pureL,El.av_pure]) (Nat.le_of_ble_eq_true rfl) rfl rfl (g:=[]) ?_⟩
  rw [body_20,c20]
  have L:=loopQ (fn:=fn20) (b:=b49) (K:=K) (k:=K) (fun i => S49 a b i) a.s.length rfl (fun i hi => by
    obtain ⟨x,hx⟩:∃ x,a.s[i]? = some x:=⟨a.s[i],by simp⟩
    obtain ⟨y,hy⟩:∃ y,b.s[i]? = some y:=⟨b.s[i]'(by omega),List.getElem?_eq_getElem _⟩
    exact go49 K K a b x y i hx hy ha.sl fun h => hN i (List.mem_range.2 hi) x y hx hy K (by omega) 0 h) (last49 K K a b) (by simp) (by omega)
  simp [b49,lp,lps,c20,firstReg,S49,bx,ec,← e1,← e2,← e3,← e4] at L
  have ga:=bs_go ha.bb
  simp [El.av_eq,-s_round,← e1,← e2,← e3,← e4,← ll,ga,L,fitZ]
end F1
end
end
section
open Ab Go TabE Sp E18 E20 E22 E23 E26 E31
namespace E36
theorem cnts_mem {x:El}:∀ {l:List El},x ∈ l → cnt x.core ≤ cnts (El.cores l)
  | y :: r,h => by
    rw [El.cores,cnts]
    have:=cnt_pos y.core
    have:=cnts_pos (El.cores r)
    rcases List.mem_cons.1 h with rfl | h
    · omega
    · have:=cnts_mem h; omega
end E36
end
section
open Ab Go TabE Sp E18
namespace E18
theorem encs_mem {x:El}:∀ {l:List El},x ∈ l → (enc x.core).length ≤ (encs (El.cores l)).length
  | y :: r,h => by
    rw [El.cores,encs,List.length_append]
    rcases List.mem_cons.1 h with rfl | h
    · omega
    · have:=encs_mem h; omega
end E18
end
section
open Ab Go TabE Sp
namespace E40
def num:List Int → Int → Int → Int × Int × Int
  | [],_,_ => (0,0,7)
  | x :: r,i,a => if (i=1 ∧ x=128) ∨ (i=4 ∧ 128 ≤ x) then (0,0,9) else if x < 128 then (if 128 * a + x % 128 < 31 then (0,0,9) else (128 * a + x % 128,i + 1,0)) else num r (i + 1) (128 * a + x % 128)
def gt:List Int → (Int × Bool × Int) × Int × Int
  | [] => ((0,false,0),0,7)
  | x :: r =>
    let p:=if x % 32=31 then num r 1 0 else (x % 32,1,0)
    let e:=if p.2.2=0 then tagE (x / 64) (decide (x / 32 % 2=1)) p.1 else p.2.2
    if e ≠ 0 then ((0,false,0),0,e) else ((x / 64,decide (x / 32 % 2=1),p.1),p.2.1,0)
theorem byte_at (f c) (xs:List Int) (i:Nat) (x:Int) (h:xs[i]? = some x):∀ hp,indexAddrA E 26 (.sl f (bs xs) c) (.int .i64 i) hp=some (.pel [.int .u8 x]):=by
  intro hp
  have hi:i < xs.length:=(List.getElem?_eq_some_iff.1 h).1
  unfold indexAddrA
  simp only [E_ty26,E_ty5]
  rw [if_pos ⟨by omega,by rw [bs_len]; omega⟩]
  simp only [Int.toNat_natCast,bs,List.getElem?_map,h,Option.map_some]
  rfl
def b112:Code:=lp c167 0
abbrev S (f:Bool) (xs:List Int) (c:Option Nat) (a:Int) (i:Nat):St:=⟨[(0,.sl f (bs xs) c),(2,.int .u32 a),(3,.int .i64 (i:Int))],[]⟩
end E40
end
