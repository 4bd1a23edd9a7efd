/- Own work, no conditions. -/
import Derived.Test.YtbiildmljbcmeaaP5
import Derived.Test.YtbiildmljbcmeaaB32
set_option maxRecDepth 20000
set_option linter.unusedSimpArgs false
set_option linter.unusedVariables false
set_option maxHeartbeats 16000000
section
open Ab Go TabE
attribute [local simp ↓] s_seq s_reg s_regd s_cond s_block s_cons s_consG
attribute [local simp] s_nil s_loop s_round s_lpn s_lpe s_lpr firstReg s_gt s_gf s_wb s_wu s_val s_valN s_skip s_calls s_callP s_cax lookR flatR pureKs s_ret s_rgx s_sqn s_sqr s_sqe s_cdb s_bkn s_bkr s_bke s_exit s_ret' s_skip' s_finr s_finn s_fin1 s_fix s_clean s_gc0 o_tmp o_int o_bool o_nil o_str o_fn o_nil' l_hit l_miss l_nil ol_nil ol_cons ol_some x_move x_assign x_pick pk_t pk_f x_bin bn_s x_un x_extract x_callF cl_no x_callB x_callBF frzV x_conv cvx convA frame0 binA intOp resL resA results1 sealA sealLW AV.pure AV.pureL keepT x_alloc x_box bxx x_build bdx x_buildSlice bsx x_buildSliceF bsf x_load ldx x_store stx x_slice slx x_fieldAddr x_field x_index ixx x_indexAddr iax x_makeSlice msx x_nilCheck newK genOf setK lookK fillA writeL writeC readC conts TyI.mk1 sliceA boundsA boundsB fitsA numA indexAddrA fieldAddrA partA fieldA indexA appendA copyA builtinA AV.cells AV.scal chunk gcH reach keysT keepK inKs AV.keys AV.keysL Ty.isAgg eq1 eqL convA.go ltI w_u8 w_u32 w_u64 w_i64 w_fdiv w_tdiv w_tmod IntKind.bits unA
section
open Ab Go TabE P1 P2 P2 P5
namespace P7
theorem get_A (f:Bool) (c:Option Nat) :Con E 10 96 [.sl f (bs ([])) c] (.tup [.int .i64 0,.int .i64 0,.int .i64 7]):=by
  refine .of (g:=[]) (by simp [AV.pureL,AV.pure,bs_pure]) ?_
  rw [aCall_fn rfl (E_fn96) (by simp [AV.pureL,AV.pure,bs_pure]) (Nat.le_of_ble_eq_true rfl) rfl rfl,body_96,c96]
  simp [bs_nil,bs_cons,bs_length,bs_pure]
theorem rget_A (f:Bool) (c:Option Nat) :Con E 20 89 [.sl f (bs ([])) c] (.tup [.int .i64 0,.int .i64 0,.int .i64 7]):=by
  refine .of (g:=[]) (by simp [AV.pureL,AV.pure,bs_pure]) ?_
  rw [aCall_fn rfl (E_fn89) (by simp [AV.pureL,AV.pure,bs_pure]) (Nat.le_of_ble_eq_true rfl) rfl rfl,body_89,c89]
  simp [bs_nil,bs_cons,bs_length,bs_pure]
theorem get_B (f:Bool) (c:Option Nat) (x:Int) (r:List Int) (x0:0 ≤ x) (h:x ≤ 127):Con E 10 96 [.sl f (bs (x :: r)) c] (.tup [.int .i64 x,.int .i64 1,.int .i64 0]):=by
  refine .of (g:=[]) (by simp [AV.pureL,AV.pure,bs_pure]) ?_
  rw [aCall_fn rfl (E_fn96) (by simp [AV.pureL,AV.pure,bs_pure]) (Nat.le_of_ble_eq_true rfl) rfl rfl,body_96,c96]
  have f0:x < 128:=by omega
  have f1:¬ ((r.length:Int) + 1=0):=by omega
  have f2:(0:Int) < (r.length:Int) + 1:=by omega
  have w1:IntKind.i64.wrap x=x:=w_i64 _ (by omega) (by omega)
  simp [bs_nil,bs_cons,bs_length,bs_pure,f0,f1,f2,h,w1]
theorem rget_B (f:Bool) (c:Option Nat) (x:Int) (r:List Int) (x0:0 ≤ x) (h:x ≤ 127):Con E 20 89 [.sl f (bs (x :: r)) c] (.tup [.int .i64 x,.int .i64 1,.int .i64 0]):=by
  refine .of (g:=[]) (by simp [AV.pureL,AV.pure,bs_pure]) ?_
  rw [aCall_fn rfl (E_fn89) (by simp [AV.pureL,AV.pure,bs_pure]) (Nat.le_of_ble_eq_true rfl) rfl rfl,body_89,c89]
  have f0:x < 128:=by omega
  have f1:¬ ((r.length:Int) + 1=0):=by omega
  have f2:(0:Int) < (r.length:Int) + 1:=by omega
  have w1:IntKind.i64.wrap x=x:=w_i64 _ (by omega) (by omega)
  simp [bs_nil,bs_cons,bs_length,bs_pure,f0,f1,f2,h,w1]
theorem get_C0 (f:Bool) (c:Option Nat) (r:List Int):Con E 10 96 [.sl f (bs (128 :: r)) c] (.tup [.int .i64 0,.int .i64 0,.int .i64 10]):=by
  refine .of (g:=[]) (by simp [AV.pureL,AV.pure,bs_pure]) ?_
  rw [aCall_fn rfl (E_fn96) (by simp [AV.pureL,AV.pure,bs_pure]) (Nat.le_of_ble_eq_true rfl) rfl rfl,body_96,c96]
  have f0:¬ ((r.length:Int) + 1=0):=by omega
  have f1:(0:Int) < (r.length:Int) + 1:=by omega
  simp [bs_nil,bs_cons,bs_length,bs_pure,f0,f1]
theorem rget_C0 (f:Bool) (c:Option Nat) (r:List Int):Con E 20 89 [.sl f (bs (128 :: r)) c] (.tup [.int .i64 0,.int .i64 0,.int .i64 10]):=by
  refine .of (g:=[]) (by simp [AV.pureL,AV.pure,bs_pure]) ?_
  rw [aCall_fn rfl (E_fn89) (by simp [AV.pureL,AV.pure,bs_pure]) (Nat.le_of_ble_eq_true rfl) rfl rfl,body_89,c89]
  have f0:¬ ((r.length:Int) + 1=0):=by omega
  have f1:(0:Int) < (r.length:Int) + 1:=by omega
  simp [bs_nil,bs_cons,bs_length,bs_pure,f0,f1]
theorem get_C1 (f:Bool) (c:Option Nat) (x:Int) (r:List Int) (x0:132 ≤ x) (h:x ≤ 255):Con E 10 96 [.sl f (bs (x :: r)) c] (.tup [.int .i64 0,.int .i64 0,.int .i64 10]):=by
  refine .of (g:=[]) (by simp [AV.pureL,AV.pure,bs_pure]) ?_
  rw [aCall_fn rfl (E_fn96) (by simp [AV.pureL,AV.pure,bs_pure]) (Nat.le_of_ble_eq_true rfl) rfl rfl,body_96,c96]
  have f0:¬ x < 128:=by omega
  have f1:¬ x ≤ 127:=by omega
  have f2:¬ ((r.length:Int) + 1=0):=by omega
  have f3:(0:Int) < (r.length:Int) + 1:=by omega
  have f4:¬ x - 128=0:=by omega
  have f5:3 < x - 128:=by omega
  have f6:¬ x - 128 < 1:=by omega
  have w1:IntKind.i64.wrap x=x:=w_i64 _ (by omega) (by omega)
  have w2:IntKind.i64.wrap (x - 128)=x - 128:=w_i64 _ (by omega) (by omega)
  have e1:(x - 128 == 0)=false:=by simp; omega
  have e2:¬ x=128:=by omega
  simp [e1,e2,bs_nil,bs_cons,bs_length,bs_pure,f0,f1,f2,f3,f4,f5,f6,w1,w2]
theorem rget_C1 (f:Bool) (c:Option Nat) (x:Int) (r:List Int) (x0:132 ≤ x) (h:x ≤ 255):Con E 20 89 [.sl f (bs (x :: r)) c] (.tup [.int .i64 0,.int .i64 0,.int .i64 10]):=by
  refine .of (g:=[]) (by simp [AV.pureL,AV.pure,bs_pure]) ?_
  rw [aCall_fn rfl (E_fn89) (by simp [AV.pureL,AV.pure,bs_pure]) (Nat.le_of_ble_eq_true rfl) rfl rfl,body_89,c89]
  have f0:¬ x < 128:=by omega
  have f1:¬ x ≤ 127:=by omega
  have f2:¬ ((r.length:Int) + 1=0):=by omega
  have f3:(0:Int) < (r.length:Int) + 1:=by omega
  have f4:¬ x - 128=0:=by omega
  have f5:3 < x - 128:=by omega
  have f6:¬ x - 128 < 1:=by omega
  have w1:IntKind.i64.wrap x=x:=w_i64 _ (by omega) (by omega)
  have w2:IntKind.i64.wrap (x - 128)=x - 128:=w_i64 _ (by omega) (by omega)
  have e1:(x - 128 == 0)=false:=by simp; omega
  have e2:¬ x=128:=by omega
  simp [e1,e2,bs_nil,bs_cons,bs_length,bs_pure,f0,f1,f2,f3,f4,f5,f6,w1,w2]
theorem get_D1 (f:Bool) (c:Option Nat) :Con E 10 96 [.sl f (bs ([129])) c] (.tup [.int .i64 0,.int .i64 0,.int .i64 7]):=by
  refine .of (g:=[]) (by simp [AV.pureL,AV.pure,bs_pure]) ?_
  rw [aCall_fn rfl (E_fn96) (by simp [AV.pureL,AV.pure,bs_pure]) (Nat.le_of_ble_eq_true rfl) rfl rfl,body_96,c96]
  simp [bs_nil,bs_cons,bs_length,bs_pure]
theorem rget_D1 (f:Bool) (c:Option Nat) :Con E 20 89 [.sl f (bs ([129])) c] (.tup [.int .i64 0,.int .i64 0,.int .i64 7]):=by
  refine .of (g:=[]) (by simp [AV.pureL,AV.pure,bs_pure]) ?_
  rw [aCall_fn rfl (E_fn89) (by simp [AV.pureL,AV.pure,bs_pure]) (Nat.le_of_ble_eq_true rfl) rfl rfl,body_89,c89]
  simp [bs_nil,bs_cons,bs_length,bs_pure]
theorem get_D2 (f:Bool) (c:Option Nat) :Con E 10 96 [.sl f (bs ([130])) c] (.tup [.int .i64 0,.int .i64 0,.int .i64 7]):=by
  refine .of (g:=[]) (by simp [AV.pureL,AV.pure,bs_pure]) ?_
  rw [aCall_fn rfl (E_fn96) (by simp [AV.pureL,AV.pure,bs_pure]) (Nat.le_of_ble_eq_true rfl) rfl rfl,body_96,c96]
  simp [bs_nil,bs_cons,bs_length,bs_pure]
theorem rget_D2 (f:Bool) (c:Option Nat) :Con E 20 89 [.sl f (bs ([130])) c] (.tup [.int .i64 0,.int .i64 0,.int .i64 7]):=by
  refine .of (g:=[]) (by simp [AV.pureL,AV.pure,bs_pure]) ?_
  rw [aCall_fn rfl (E_fn89) (by simp [AV.pureL,AV.pure,bs_pure]) (Nat.le_of_ble_eq_true rfl) rfl rfl,body_89,c89]
  simp [bs_nil,bs_cons,bs_length,bs_pure]
theorem get_D2a (f:Bool) (c:Option Nat) (y:Int):Con E 10 96 [.sl f (bs ([130,y])) c] (.tup [.int .i64 0,.int .i64 0,.int .i64 7]):=by
  refine .of (g:=[]) (by simp [AV.pureL,AV.pure,bs_pure]) ?_
  rw [aCall_fn rfl (E_fn96) (by simp [AV.pureL,AV.pure,bs_pure]) (Nat.le_of_ble_eq_true rfl) rfl rfl,body_96,c96]
  simp [bs_nil,bs_cons,bs_length,bs_pure]
theorem rget_D2a (f:Bool) (c:Option Nat) (y:Int):Con E 20 89 [.sl f (bs ([130,y])) c] (.tup [.int .i64 0,.int .i64 0,.int .i64 7]):=by
  refine .of (g:=[]) (by simp [AV.pureL,AV.pure,bs_pure]) ?_
  rw [aCall_fn rfl (E_fn89) (by simp [AV.pureL,AV.pure,bs_pure]) (Nat.le_of_ble_eq_true rfl) rfl rfl,body_89,c89]
  simp [bs_nil,bs_cons,bs_length,bs_pure]
theorem get_D3 (f:Bool) (c:Option Nat) :Con E 10 96 [.sl f (bs ([131])) c] (.tup [.int .i64 0,.int .i64 0,.int .i64 7]):=by
  refine .of (g:=[]) (by simp [AV.pureL,AV.pure,bs_pure]) ?_
  rw [aCall_fn rfl (E_fn96) (by simp [AV.pureL,AV.pure,bs_pure]) (Nat.le_of_ble_eq_true rfl) rfl rfl,body_96,c96]
  simp [bs_nil,bs_cons,bs_length,bs_pure]
theorem rget_D3 (f:Bool) (c:Option Nat) :Con E 20 89 [.sl f (bs ([131])) c] (.tup [.int .i64 0,.int .i64 0,.int .i64 7]):=by
  refine .of (g:=[]) (by simp [AV.pureL,AV.pure,bs_pure]) ?_
  rw [aCall_fn rfl (E_fn89) (by simp [AV.pureL,AV.pure,bs_pure]) (Nat.le_of_ble_eq_true rfl) rfl rfl,body_89,c89]
  simp [bs_nil,bs_cons,bs_length,bs_pure]
theorem get_D3a (f:Bool) (c:Option Nat) (y:Int):Con E 10 96 [.sl f (bs ([131,y])) c] (.tup [.int .i64 0,.int .i64 0,.int .i64 7]):=by
  refine .of (g:=[]) (by simp [AV.pureL,AV.pure,bs_pure]) ?_
  rw [aCall_fn rfl (E_fn96) (by simp [AV.pureL,AV.pure,bs_pure]) (Nat.le_of_ble_eq_true rfl) rfl rfl,body_96,c96]
  simp [bs_nil,bs_cons,bs_length,bs_pure]
theorem rget_D3a (f:Bool) (c:Option Nat) (y:Int):Con E 20 89 [.sl f (bs ([131,y])) c] (.tup [.int .i64 0,.int .i64 0,.int .i64 7]):=by
  refine .of (g:=[]) (by simp [AV.pureL,AV.pure,bs_pure]) ?_
  rw [aCall_fn rfl (E_fn89) (by simp [AV.pureL,AV.pure,bs_pure]) (Nat.le_of_ble_eq_true rfl) rfl rfl,body_89,c89]
  simp [bs_nil,bs_cons,bs_length,bs_pure]
theorem get_D3b (f:Bool) (c:Option Nat) (y z:Int):Con E 10 96 [.sl f (bs ([131,y,z])) c] (.tup [.int .i64 0,.int .i64 0,.int .i64 7]):=by
  refine .of (g:=[]) (by simp [AV.pureL,AV.pure,bs_pure]) ?_
  rw [aCall_fn rfl (E_fn96) (by simp [AV.pureL,AV.pure,bs_pure]) (Nat.le_of_ble_eq_true rfl) rfl rfl,body_96,c96]
  simp [bs_nil,bs_cons,bs_length,bs_pure]
theorem rget_D3b (f:Bool) (c:Option Nat) (y z:Int):Con E 20 89 [.sl f (bs ([131,y,z])) c] (.tup [.int .i64 0,.int .i64 0,.int .i64 7]):=by
  refine .of (g:=[]) (by simp [AV.pureL,AV.pure,bs_pure]) ?_
  rw [aCall_fn rfl (E_fn89) (by simp [AV.pureL,AV.pure,bs_pure]) (Nat.le_of_ble_eq_true rfl) rfl rfl,body_89,c89]
  simp [bs_nil,bs_cons,bs_length,bs_pure]
end P7
end
end
section
open Ab Go TabE
attribute [local simp ↓] s_seq s_reg s_regd s_cond s_block s_cons s_consG i_or
attribute [local simp] s_nil s_loop s_round s_lpn s_lpe s_lpr firstReg s_gt s_gf s_wb s_wu s_val s_valN s_skip s_calls s_callP s_cax lookR flatR pureKs s_ret s_rgx s_sqn s_sqr s_sqe s_cdb s_bkn s_bkr s_bke s_exit s_ret' s_skip' s_finr s_finn s_fin1 s_fix s_clean s_gc0 o_tmp o_int o_bool o_nil o_str o_fn o_nil' l_hit l_miss l_nil ol_nil ol_cons ol_some x_move x_assign x_pick pk_t pk_f x_bin bn_s x_un x_extract x_callF cl_no x_callB x_callBF frzV x_conv cvx convA frame0 binA intOp resL resA results1 sealA sealLW AV.pure AV.pureL keepT x_alloc x_box bxx x_build bdx x_buildSlice bsx x_buildSliceF bsf x_load ldx x_store stx x_slice slx x_fieldAddr x_field x_index ixx x_indexAddr iax x_makeSlice msx x_nilCheck newK genOf setK lookK fillA writeL writeC readC conts TyI.mk1 sliceA boundsA boundsB fitsA numA indexAddrA fieldAddrA partA fieldA indexA appendA copyA builtinA AV.cells AV.scal chunk gcH reach keysT keepK inKs AV.keys AV.keysL Ty.isAgg eq1 eqL convA.go ltI w_u8 w_u32 w_u64 w_i64 w_fdiv w_tdiv w_tmod IntKind.bits unA or64_zero
section
open Ab Go TabE P1 P2 P2 P5 P7
namespace P8
theorem get_E1 (f:Bool) (c:Option Nat) (y:Int) (r:List Int) (y0:128 ≤ y) (y1:y < 256):Con E 10 96 [.sl f (bs (129 :: y :: r)) c] (.tup [.int .i64 y,.int .i64 2,.int .i64 0]):=by
  refine .of (g:=[]) (by simp [AV.pureL,AV.pure,bs_pure]) ?_
  rw [aCall_fn rfl (E_fn96) (by simp [AV.pureL,AV.pure,bs_pure]) (Nat.le_of_ble_eq_true rfl) rfl rfl,body_96,c96]
  have f0:¬ ((r.length:Int) + 1 + 1=0):=by omega
  have f1:(0:Int) < (r.length:Int) + 1 + 1:=by omega
  have f2:¬ ((r.length:Int) + 1 + 1 ≤ 1):=by omega
  have f3:¬ ((r.length:Int) + 1 + 1 < 2):=by omega
  have f4:(1:Int) < (r.length:Int) + 1 + 1:=by omega
  have f5:¬ y=0:=by omega
  have f6:¬ y < 128:=by omega
  have f7:¬ y ≤ 127:=by omega
  have w1:IntKind.i64.wrap (y)=y:=w_i64 _ (by omega) (by omega)
  have m1:min (r.length + 1) 1=1:=by omega
  have o2:or64 0 y=y:=by have h:=(or_three 0 0 y (by omega) (by omega) (by omega) (by omega) (by omega) (by omega)).2; simpa using h
  have e1:(y == 0)=false:=by simp; omega
  simp [bs_nil,bs_cons,bs_length,bs_pure,bs_cells,bs_all,f0,f1,f2,f3,f4,f5,f6,f7,w1,m1,o2,e1]
theorem rget_E1 (f:Bool) (c:Option Nat) (y:Int) (r:List Int) (y0:128 ≤ y) (y1:y < 256):Con E 20 89 [.sl f (bs (129 :: y :: r)) c] (.tup [.int .i64 y,.int .i64 2,.int .i64 0]):=by
  refine .of (g:=[]) (by simp [AV.pureL,AV.pure,bs_pure]) ?_
  rw [aCall_fn rfl (E_fn89) (by simp [AV.pureL,AV.pure,bs_pure]) (Nat.le_of_ble_eq_true rfl) rfl rfl,body_89,c89]
  have f0:¬ ((r.length:Int) + 1 + 1=0):=by omega
  have f1:(0:Int) < (r.length:Int) + 1 + 1:=by omega
  have f2:¬ ((r.length:Int) + 1 + 1 ≤ 1):=by omega
  have f3:¬ ((r.length:Int) + 1 + 1 < 2):=by omega
  have f4:(1:Int) < (r.length:Int) + 1 + 1:=by omega
  have f5:¬ y=0:=by omega
  have f6:¬ y < 128:=by omega
  have f7:¬ y ≤ 127:=by omega
  have w1:IntKind.i64.wrap (y)=y:=w_i64 _ (by omega) (by omega)
  have m1:min (r.length + 1) 1=1:=by omega
  have o2:or64 0 y=y:=by have h:=(or_three 0 0 y (by omega) (by omega) (by omega) (by omega) (by omega) (by omega)).2; simpa using h
  have e1:(y == 0)=false:=by simp; omega
  simp [bs_nil,bs_cons,bs_length,bs_pure,bs_cells,bs_all,f0,f1,f2,f3,f4,f5,f6,f7,w1,e1]
theorem get_F1 (f:Bool) (c:Option Nat) (y:Int) (r:List Int) (y0:0 < y) (y1:y ≤ 127):Con E 10 96 [.sl f (bs (129 :: y :: r)) c] (.tup [.int .i64 0,.int .i64 0,.int .i64 10]):=by
  refine .of (g:=[]) (by simp [AV.pureL,AV.pure,bs_pure]) ?_
  rw [aCall_fn rfl (E_fn96) (by simp [AV.pureL,AV.pure,bs_pure]) (Nat.le_of_ble_eq_true rfl) rfl rfl,body_96,c96]
  have f0:¬ ((r.length:Int) + 1 + 1=0):=by omega
  have f1:(0:Int) < (r.length:Int) + 1 + 1:=by omega
  have f2:¬ ((r.length:Int) + 1 + 1 ≤ 1):=by omega
  have f3:¬ ((r.length:Int) + 1 + 1 < 2):=by omega
  have f4:(1:Int) < (r.length:Int) + 1 + 1:=by omega
  have f5:¬ y=0:=by omega
  have f6:y < 128:=by omega
  have f7:y ≤ 127:=by omega
  have w1:IntKind.i64.wrap (y)=y:=w_i64 _ (by omega) (by omega)
  have m1:min (r.length + 1) 1=1:=by omega
  have o2:or64 0 y=y:=by have h:=(or_three 0 0 y (by omega) (by omega) (by omega) (by omega) (by omega) (by omega)).2; simpa using h
  have e1:(y == 0)=false:=by simp; omega
  simp [bs_nil,bs_cons,bs_length,bs_pure,bs_cells,bs_all,f0,f1,f2,f3,f4,f5,f6,f7,w1,m1,o2,e1]
theorem rget_F1 (f:Bool) (c:Option Nat) (y:Int) (r:List Int) (y0:0 < y) (y1:y ≤ 127):Con E 20 89 [.sl f (bs (129 :: y :: r)) c] (.tup [.int .i64 0,.int .i64 0,.int .i64 10]):=by
  refine .of (g:=[]) (by simp [AV.pureL,AV.pure,bs_pure]) ?_
  rw [aCall_fn rfl (E_fn89) (by simp [AV.pureL,AV.pure,bs_pure]) (Nat.le_of_ble_eq_true rfl) rfl rfl,body_89,c89]
  have f0:¬ ((r.length:Int) + 1 + 1=0):=by omega
  have f1:(0:Int) < (r.length:Int) + 1 + 1:=by omega
  have f2:¬ ((r.length:Int) + 1 + 1 ≤ 1):=by omega
  have f3:¬ ((r.length:Int) + 1 + 1 < 2):=by omega
  have f4:(1:Int) < (r.length:Int) + 1 + 1:=by omega
  have f5:¬ y=0:=by omega
  have f6:y < 128:=by omega
  have f7:y ≤ 127:=by omega
  have w1:IntKind.i64.wrap (y)=y:=w_i64 _ (by omega) (by omega)
  have m1:min (r.length + 1) 1=1:=by omega
  have o2:or64 0 y=y:=by have h:=(or_three 0 0 y (by omega) (by omega) (by omega) (by omega) (by omega) (by omega)).2; simpa using h
  have e1:(y == 0)=false:=by simp; omega
  simp [bs_nil,bs_cons,bs_length,bs_pure,bs_cells,bs_all,f0,f1,f2,f3,f4,f5,f6,f7,w1,e1]
theorem get_Z1 (f:Bool) (c:Option Nat) (r:List Int):Con E 10 96 [.sl f (bs (129 :: 0 :: r)) c] (.tup [.int .i64 0,.int .i64 0,.int .i64 10]):=by
  refine .of (g:=[]) (by simp [AV.pureL,AV.pure,bs_pure]) ?_
  rw [aCall_fn rfl (E_fn96) (by simp [AV.pureL,AV.pure,bs_pure]) (Nat.le_of_ble_eq_true rfl) rfl rfl,body_96,c96]
  have f0:¬ ((r.length:Int) + 1 + 1=0):=by omega
  have f1:(0:Int) < (r.length:Int) + 1 + 1:=by omega
  have f2:¬ ((r.length:Int) + 1 + 1 ≤ 1):=by omega
  have f3:¬ ((r.length:Int) + 1 + 1 < 2):=by omega
  have f4:(1:Int) < (r.length:Int) + 1 + 1:=by omega
  have m1:min (r.length + 1) 1=1:=by omega
  simp [bs_nil,bs_cons,bs_length,bs_pure,bs_cells,bs_all,f0,f1,f2,f3,f4,m1]
theorem rget_Z1 (f:Bool) (c:Option Nat) (r:List Int):Con E 20 89 [.sl f (bs (129 :: 0 :: r)) c] (.tup [.int .i64 0,.int .i64 0,.int .i64 10]):=by
  refine .of (g:=[]) (by simp [AV.pureL,AV.pure,bs_pure]) ?_
  rw [aCall_fn rfl (E_fn89) (by simp [AV.pureL,AV.pure,bs_pure]) (Nat.le_of_ble_eq_true rfl) rfl rfl,body_89,c89]
  have f0:¬ ((r.length:Int) + 1 + 1=0):=by omega
  have f1:(0:Int) < (r.length:Int) + 1 + 1:=by omega
  have f2:¬ ((r.length:Int) + 1 + 1 ≤ 1):=by omega
  have f3:¬ ((r.length:Int) + 1 + 1 < 2):=by omega
  have f4:(1:Int) < (r.length:Int) + 1 + 1:=by omega
  have m1:min (r.length + 1) 1=1:=by omega
  simp [bs_nil,bs_cons,bs_length,bs_pure,bs_cells,bs_all,f0,f1,f2,f3,f4]
theorem get_E2 (f:Bool) (c:Option Nat) (y z:Int) (r:List Int) (y0:0 < y) (y1:y < 256) (z0:0 ≤ z) (z1:z < 256):Con E 10 96 [.sl f (bs (130 :: y :: z :: r)) c] (.tup [.int .i64 (256 * y + z),.int .i64 3,.int .i64 0]):=by
  refine .of (g:=[]) (by simp [AV.pureL,AV.pure,bs_pure]) ?_
  rw [aCall_fn rfl (E_fn96) (by simp [AV.pureL,AV.pure,bs_pure]) (Nat.le_of_ble_eq_true rfl) rfl rfl,body_96,c96]
  have f0:¬ ((r.length:Int) + 1 + 1 + 1=0):=by omega
  have f1:(0:Int) < (r.length:Int) + 1 + 1 + 1:=by omega
  have f2:¬ ((r.length:Int) + 1 + 1 + 1 ≤ 2):=by omega
  have f3:¬ ((r.length:Int) + 1 + 1 + 1 < 3):=by omega
  have f4:(1:Int) < (r.length:Int) + 1 + 1 + 1:=by omega
  have f5:(2:Int) < (r.length:Int) + 1 + 1 + 1:=by omega
  have f6:¬ y=0:=by omega
  have f7:¬ 256 * y + z < 128:=by omega
  have f8:¬ 256 * y + z ≤ 127:=by omega
  have w1:IntKind.i64.wrap (y)=y:=w_i64 _ (by omega) (by omega)
  have w2:IntKind.i64.wrap (z)=z:=w_i64 _ (by omega) (by omega)
  have w3:IntKind.i64.wrap (y * 256)=y * 256:=w_i64 _ (by omega) (by omega)
  have w4:IntKind.i64.wrap (256 * y)=256 * y:=w_i64 _ (by omega) (by omega)
  have w5:IntKind.i64.wrap (256 * y + z)=256 * y + z:=w_i64 _ (by omega) (by omega)
  have m2:min (r.length + 1 + 1) 2=2:=by omega
  obtain ⟨p1,p2⟩:=or_three 0 y z (by omega) (by omega) (by omega) (by omega) (by omega) (by omega)
  have o1:or64 0 (y * 256)=y * 256:=by simpa using p1
  have o2:or64 (y * 256) z=256 * y + z:=by
    have e:(0:Int) * 65536 + y * 256=y * 256:=by omega
    rw [e] at p2
    omega
  have e1:(y == 0)=false:=by simp; omega
  simp [bs_nil,bs_cons,bs_length,bs_pure,bs_cells,bs_all,f0,f1,f2,f3,f4,f5,f6,f7,f8,w1,w2,w3,w4,w5,m2,o1,o2,e1]
theorem rget_E2 (f:Bool) (c:Option Nat) (y z:Int) (r:List Int) (y0:0 < y) (y1:y < 256) (z0:0 ≤ z) (z1:z < 256):Con E 20 89 [.sl f (bs (130 :: y :: z :: r)) c] (.tup [.int .i64 (256 * y + z),.int .i64 3,.int .i64 0]):=by
  refine .of (g:=[]) (by simp [AV.pureL,AV.pure,bs_pure]) ?_
  rw [aCall_fn rfl (E_fn89) (by simp [AV.pureL,AV.pure,bs_pure]) (Nat.le_of_ble_eq_true rfl) rfl rfl,body_89,c89]
  have f0:¬ ((r.length:Int) + 1 + 1 + 1=0):=by omega
  have f1:(0:Int) < (r.length:Int) + 1 + 1 + 1:=by omega
  have f2:¬ ((r.length:Int) + 1 + 1 + 1 ≤ 2):=by omega
  have f3:¬ ((r.length:Int) + 1 + 1 + 1 < 3):=by omega
  have f4:(1:Int) < (r.length:Int) + 1 + 1 + 1:=by omega
  have f5:(2:Int) < (r.length:Int) + 1 + 1 + 1:=by omega
  have f6:¬ y=0:=by omega
  have f7:¬ 256 * y + z < 128:=by omega
  have f8:¬ 256 * y + z ≤ 127:=by omega
  have w1:IntKind.i64.wrap (y)=y:=w_i64 _ (by omega) (by omega)
  have w2:IntKind.i64.wrap (z)=z:=w_i64 _ (by omega) (by omega)
  have w3:IntKind.i64.wrap (y * 256)=y * 256:=w_i64 _ (by omega) (by omega)
  have w4:IntKind.i64.wrap (256 * y)=256 * y:=w_i64 _ (by omega) (by omega)
  have w5:IntKind.i64.wrap (256 * y + z)=256 * y + z:=w_i64 _ (by omega) (by omega)
  have m2:min (r.length + 1 + 1) 2=2:=by omega
  obtain ⟨p1,p2⟩:=or_three 0 y z (by omega) (by omega) (by omega) (by omega) (by omega) (by omega)
  have o1:or64 0 (y * 256)=y * 256:=by simpa using p1
  have o2:or64 (y * 256) z=256 * y + z:=by
    have e:(0:Int) * 65536 + y * 256=y * 256:=by omega
    rw [e] at p2
    omega
  have e1:(y == 0)=false:=by simp; omega
  simp [bs_nil,bs_cons,bs_length,bs_pure,bs_cells,bs_all,f0,f1,f2,f3,f4,f5,f6,f7,f8,w1,w2,w4,w5,e1]
theorem get_Z2 (f:Bool) (c:Option Nat) (z:Int) (r:List Int) (z0:0 ≤ z) (z1:z < 256):Con E 10 96 [.sl f (bs (130 :: 0 :: z :: r)) c] (.tup [.int .i64 0,.int .i64 0,.int .i64 10]):=by
  refine .of (g:=[]) (by simp [AV.pureL,AV.pure,bs_pure]) ?_
  rw [aCall_fn rfl (E_fn96) (by simp [AV.pureL,AV.pure,bs_pure]) (Nat.le_of_ble_eq_true rfl) rfl rfl,body_96,c96]
  have f0:¬ ((r.length:Int) + 1 + 1 + 1=0):=by omega
  have f1:(0:Int) < (r.length:Int) + 1 + 1 + 1:=by omega
  have f2:¬ ((r.length:Int) + 1 + 1 + 1 ≤ 2):=by omega
  have f3:¬ ((r.length:Int) + 1 + 1 + 1 < 3):=by omega
  have f4:(1:Int) < (r.length:Int) + 1 + 1 + 1:=by omega
  have f5:(2:Int) < (r.length:Int) + 1 + 1 + 1:=by omega
  have w2:IntKind.i64.wrap (z)=z:=w_i64 _ (by omega) (by omega)
  have m2:min (r.length + 1 + 1) 2=2:=by omega
  simp [bs_nil,bs_cons,bs_length,bs_pure,bs_cells,bs_all,f0,f1,f2,f3,f4,f5,w2,m2]
theorem rget_Z2 (f:Bool) (c:Option Nat) (z:Int) (r:List Int) (z0:0 ≤ z) (z1:z < 256):Con E 20 89 [.sl f (bs (130 :: 0 :: z :: r)) c] (.tup [.int .i64 0,.int .i64 0,.int .i64 10]):=by
  refine .of (g:=[]) (by simp [AV.pureL,AV.pure,bs_pure]) ?_
  rw [aCall_fn rfl (E_fn89) (by simp [AV.pureL,AV.pure,bs_pure]) (Nat.le_of_ble_eq_true rfl) rfl rfl,body_89,c89]
  have f0:¬ ((r.length:Int) + 1 + 1 + 1=0):=by omega
  have f1:(0:Int) < (r.length:Int) + 1 + 1 + 1:=by omega
  have f2:¬ ((r.length:Int) + 1 + 1 + 1 ≤ 2):=by omega
  have f3:¬ ((r.length:Int) + 1 + 1 + 1 < 3):=by omega
  have f4:(1:Int) < (r.length:Int) + 1 + 1 + 1:=by omega
  have f5:(2:Int) < (r.length:Int) + 1 + 1 + 1:=by omega
  have w2:IntKind.i64.wrap (z)=z:=w_i64 _ (by omega) (by omega)
  have m2:min (r.length + 1 + 1) 2=2:=by omega
  simp [bs_nil,bs_cons,bs_length,bs_pure,bs_cells,bs_all,f0,f1,f2,f3,f4,f5,w2]
end P8
end
section
open Ab Go TabE P1 P2 P2 P5 P7 P8
namespace P9
theorem get_E3 (f:Bool) (c:Option Nat) (y z u:Int) (r:List Int) (y0:0 < y) (y1:y < 256) (z0:0 ≤ z) (z1:z < 256) (u0:0 ≤ u) (u1:u < 256):Con E 10 96 [.sl f (bs (131 :: y :: z :: u :: r)) c] (.tup [.int .i64 (256 * (256 * y + z) + u),.int .i64 4,.int .i64 0]):=by
  refine .of (g:=[]) (by simp [AV.pureL,AV.pure,bs_pure]) ?_
  rw [aCall_fn rfl (E_fn96) (by simp [AV.pureL,AV.pure,bs_pure]) (Nat.le_of_ble_eq_true rfl) rfl rfl,body_96,c96]
  have f0:¬ ((r.length:Int) + 1 + 1 + 1 + 1=0):=by omega
  have f1:(0:Int) < (r.length:Int) + 1 + 1 + 1 + 1:=by omega
  have f2:¬ ((r.length:Int) + 1 + 1 + 1 + 1 ≤ 3):=by omega
  have f3:¬ ((r.length:Int) + 1 + 1 + 1 + 1 < 4):=by omega
  have f4:(1:Int) < (r.length:Int) + 1 + 1 + 1 + 1:=by omega
  have f5:(2:Int) < (r.length:Int) + 1 + 1 + 1 + 1:=by omega
  have f6:(3:Int) < (r.length:Int) + 1 + 1 + 1 + 1:=by omega
  have f7:¬ y=0:=by omega
  have f8:¬ 256 * (256 * y + z) + u < 128:=by omega
  have f9:¬ 256 * (256 * y + z) + u ≤ 127:=by omega
  have w1:IntKind.i64.wrap (y)=y:=w_i64 _ (by omega) (by omega)
  have w2:IntKind.i64.wrap (z)=z:=w_i64 _ (by omega) (by omega)
  have w3:IntKind.i64.wrap (u)=u:=w_i64 _ (by omega) (by omega)
  have w4:IntKind.i64.wrap (256 * y)=256 * y:=w_i64 _ (by omega) (by omega)
  have w5:IntKind.i64.wrap (256 * y + z)=256 * y + z:=w_i64 _ (by omega) (by omega)
  have w6:IntKind.i64.wrap (256 * (256 * y + z))=256 * (256 * y + z):=w_i64 _ (by omega) (by omega)
  have w7:IntKind.i64.wrap (256 * (256 * y + z) + u)=256 * (256 * y + z) + u:=w_i64 _ (by omega) (by omega)
  have w8:IntKind.i64.wrap (y * 65536)=y * 65536:=w_i64 _ (by omega) (by omega)
  have w9:IntKind.i64.wrap (z * 256)=z * 256:=w_i64 _ (by omega) (by omega)
  have m3:min (r.length + 1 + 1 + 1) 3=3:=by omega
  obtain ⟨o1,p2⟩:=or_three y z u (by omega) (by omega) (by omega) (by omega) (by omega) (by omega)
  have o2:or64 (y * 65536 + z * 256) u=256 * (256 * y + z) + u:=by omega
  have e1:(y == 0)=false:=by simp; omega
  simp [bs_nil,bs_cons,bs_length,bs_pure,bs_cells,bs_all,f0,f1,f2,f3,f4,f5,f6,f7,f8,f9,w1,w2,w3,w8,w9,w7,m3,o1,o2,e1]
theorem rget_E3 (f:Bool) (c:Option Nat) (y z u:Int) (r:List Int) (y0:0 < y) (y1:y < 256) (z0:0 ≤ z) (z1:z < 256) (u0:0 ≤ u) (u1:u < 256):Con E 20 89 [.sl f (bs (131 :: y :: z :: u :: r)) c] (.tup [.int .i64 (256 * (256 * y + z) + u),.int .i64 4,.int .i64 0]):=by
  refine .of (g:=[]) (by simp [AV.pureL,AV.pure,bs_pure]) ?_
  rw [aCall_fn rfl (E_fn89) (by simp [AV.pureL,AV.pure,bs_pure]) (Nat.le_of_ble_eq_true rfl) rfl rfl,body_89,c89]
  have f0:¬ ((r.length:Int) + 1 + 1 + 1 + 1=0):=by omega
  have f1:(0:Int) < (r.length:Int) + 1 + 1 + 1 + 1:=by omega
  have f2:¬ ((r.length:Int) + 1 + 1 + 1 + 1 ≤ 3):=by omega
  have f3:¬ ((r.length:Int) + 1 + 1 + 1 + 1 < 4):=by omega
  have f4:(1:Int) < (r.length:Int) + 1 + 1 + 1 + 1:=by omega
  have f5:(2:Int) < (r.length:Int) + 1 + 1 + 1 + 1:=by omega
  have f6:(3:Int) < (r.length:Int) + 1 + 1 + 1 + 1:=by omega
  have f7:¬ y=0:=by omega
  have f8:¬ 256 * (256 * y + z) + u < 128:=by omega
  have f9:¬ 256 * (256 * y + z) + u ≤ 127:=by omega
  have w1:IntKind.i64.wrap (y)=y:=w_i64 _ (by omega) (by omega)
  have w2:IntKind.i64.wrap (z)=z:=w_i64 _ (by omega) (by omega)
  have w3:IntKind.i64.wrap (u)=u:=w_i64 _ (by omega) (by omega)
  have w4:IntKind.i64.wrap (256 * y)=256 * y:=w_i64 _ (by omega) (by omega)
  have w5:IntKind.i64.wrap (256 * y + z)=256 * y + z:=w_i64 _ (by omega) (by omega)
  have w6:IntKind.i64.wrap (256 * (256 * y + z))=256 * (256 * y + z):=w_i64 _ (by omega) (by omega)
  have w7:IntKind.i64.wrap (256 * (256 * y + z) + u)=256 * (256 * y + z) + u:=w_i64 _ (by omega) (by omega)
  have w8:IntKind.i64.wrap (y * 65536)=y * 65536:=w_i64 _ (by omega) (by omega)
  have w9:IntKind.i64.wrap (z * 256)=z * 256:=w_i64 _ (by omega) (by omega)
  have m3:min (r.length + 1 + 1 + 1) 3=3:=by omega
  obtain ⟨o1,p2⟩:=or_three y z u (by omega) (by omega) (by omega) (by omega) (by omega) (by omega)
  have o2:or64 (y * 65536 + z * 256) u=256 * (256 * y + z) + u:=by omega
  have e1:(y == 0)=false:=by simp; omega
  simp [bs_nil,bs_cons,bs_length,bs_pure,bs_cells,bs_all,f0,f1,f2,f3,f4,f5,f6,f7,f8,f9,w1,w2,w3,w4,w5,w6,w7,e1]
theorem get_Z3 (f:Bool) (c:Option Nat) (z u:Int) (r:List Int) (z0:0 ≤ z) (z1:z < 256) (u0:0 ≤ u) (u1:u < 256):Con E 10 96 [.sl f (bs (131 :: 0 :: z :: u :: r)) c] (.tup [.int .i64 0,.int .i64 0,.int .i64 10]):=by
  refine .of (g:=[]) (by simp [AV.pureL,AV.pure,bs_pure]) ?_
  rw [aCall_fn rfl (E_fn96) (by simp [AV.pureL,AV.pure,bs_pure]) (Nat.le_of_ble_eq_true rfl) rfl rfl,body_96,c96]
  have f0:¬ ((r.length:Int) + 1 + 1 + 1 + 1=0):=by omega
  have f1:(0:Int) < (r.length:Int) + 1 + 1 + 1 + 1:=by omega
  have f2:¬ ((r.length:Int) + 1 + 1 + 1 + 1 ≤ 3):=by omega
  have f3:¬ ((r.length:Int) + 1 + 1 + 1 + 1 < 4):=by omega
  have f4:(1:Int) < (r.length:Int) + 1 + 1 + 1 + 1:=by omega
  have f5:(2:Int) < (r.length:Int) + 1 + 1 + 1 + 1:=by omega
  have f6:(3:Int) < (r.length:Int) + 1 + 1 + 1 + 1:=by omega
  have w2:IntKind.i64.wrap (z)=z:=w_i64 _ (by omega) (by omega)
  have w3:IntKind.i64.wrap (u)=u:=w_i64 _ (by omega) (by omega)
  have m3:min (r.length + 1 + 1 + 1) 3=3:=by omega
  simp [bs_nil,bs_cons,bs_length,bs_pure,bs_cells,bs_all,f0,f1,f2,f3,f4,f5,f6,w2,w3,m3]
theorem rget_Z3 (f:Bool) (c:Option Nat) (z u:Int) (r:List Int) (z0:0 ≤ z) (z1:z < 256) (u0:0 ≤ u) (u1:u < 256):Con E 20 89 [.sl f (bs (131 :: 0 :: z :: u :: r)) c] (.tup [.int .i64 0,.int .i64 0,.int .i64 10]):=by
  refine .of (g:=[]) (by simp [AV.pureL,AV.pure,bs_pure]) ?_
  rw [aCall_fn rfl (E_fn89) (by simp [AV.pureL,AV.pure,bs_pure]) (Nat.le_of_ble_eq_true rfl) rfl rfl,body_89,c89]
  have f0:¬ ((r.length:Int) + 1 + 1 + 1 + 1=0):=by omega
  have f1:(0:Int) < (r.length:Int) + 1 + 1 + 1 + 1:=by omega
  have f2:¬ ((r.length:Int) + 1 + 1 + 1 + 1 ≤ 3):=by omega
  have f3:¬ ((r.length:Int) + 1 + 1 + 1 + 1 < 4):=by omega
  have f4:(1:Int) < (r.length:Int) + 1 + 1 + 1 + 1:=by omega
  have f5:(2:Int) < (r.length:Int) + 1 + 1 + 1 + 1:=by omega
  have f6:(3:Int) < (r.length:Int) + 1 + 1 + 1 + 1:=by omega
  have w2:IntKind.i64.wrap (z)=z:=w_i64 _ (by omega) (by omega)
  have w3:IntKind.i64.wrap (u)=u:=w_i64 _ (by omega) (by omega)
  have m3:min (r.length + 1 + 1 + 1) 3=3:=by omega
  simp [bs_nil,bs_cons,bs_length,bs_pure,bs_cells,bs_all,f0,f1,f2,f3,f4,f5,f6,w2,w3]
end P9
end
end
section
open Ab Go TabE
attribute [local simp ↓] s_seq s_reg s_regd s_cond s_block s_cons s_consG
attribute [local simp] s_nil s_loop s_round s_lpn s_lpe s_lpr firstReg s_gt s_gf s_wb s_wu s_val s_valN s_skip s_calls s_callP s_cax lookR flatR pureKs s_ret s_rgx s_sqn s_sqr s_sqe s_cdb s_bkn s_bkr s_bke s_exit s_ret' s_skip' s_finr s_finn s_fin1 s_fix s_clean s_gc0 o_tmp o_int o_bool o_nil o_str o_fn o_nil' l_hit l_miss l_nil ol_nil ol_cons ol_some x_move x_assign x_pick pk_t pk_f x_bin bn_s x_un x_extract x_callF cl_no x_callB x_callBF frzV x_conv cvx convA frame0 binA intOp resL resA results1 sealLW AV.pure AV.pureL keepT x_alloc x_box bxx x_build bdx x_buildSlice bsx x_buildSliceF bsf x_load ldx x_store stx x_slice slx x_fieldAddr x_field x_index ixx x_indexAddr iax x_makeSlice msx x_makeSliceF msf x_nilCheck newK genOf setK lookK fillA writeL writeC readC conts TyI.mk1 sliceA boundsA boundsB fitsA numA indexAddrA fieldAddrA partA fieldA indexA appendA copyA builtinA AV.cells chunk gcH reach keysT keepK inKs AV.keys AV.keysL Ty.isAgg eq1 eqL convA.go ltI w_u8 w_u32 w_u64 w_i64 w_fdiv w_tdiv w_tmod IntKind.bits unA sc_int sc_bool sc_str sc_sl sc_ref sc_ptr sc_pel sc_nilp sc_fn sc_nilf sc_if sc_nili sc_agg sc_tup sc_mem bs_pure bs_kl bs_length bs_cells bs_all sl_row sealRow sealY sl_int sl_bool sl_str sl_sl sl_nilp sl_nilf sl_nili sl_pel sl_agg sl_tup sl_fn sl_if nat_1 bs_cons bs_nil i_beq i_bne x_mkF x_mkI x_tassert x_panic s_pan s_sqp s_bkp s_finp s_fixp s_lpp s_rgp s_retp s_site s_stxN s_stxO x_callT clx
section
open Ab Go TabE Sp
namespace E6
theorem tag_put (c:Int) (k:Bool) (n:Int) (c0:0 ≤ c) (c1:c < 256) (n0:0 ≤ n) (n1:n < 4294967296) (h:tagE c k n=0) :
    Con E 1 93 [.agg [.int .u8 c,.bool k,.int .u32 n]] (.tup [.sl false (bs (TG.tagO c k n)) (some (TG.tagO c k n).length),.int .i64 0]) :=
  con_prim (p:=TG.tagP) rfl rfl (by unfold TG.tagP; simp only; rw [if_pos ⟨c0,c1,n0,n1⟩,if_pos h,h]; rfl) rfl
theorem tag_size (c:Int) (k:Bool) (n:Int) (c0:0 ≤ c) (c1:c < 256) (n0:0 ≤ n) (n1:n < 4294967296) (h:tagE c k n=0) :
    Con E 10 92 [.agg [.int .u8 c,.bool k,.int .u32 n]] (.int .i64 ((TG.tagO c k n).length:Int)):=by
  refine con_of E_fn92 rfl (Nat.le_of_ble_eq_true rfl) rfl rfl (g:=[]) ?_
  rw [body_92,c92]
  have p:=tag_put c k n c0 c1 n0 n1 h
  simp [p]
theorem len_sz (n:Int) (n0:0 ≤ n) (n1:n < 16777216):P5.sz n=((lenO n).length:Int):=by
  unfold P5.sz lenO
  rw [if_neg (by omega)]
  split
  · simp
  split
  · simp
  split
  · simp
  · rw [if_pos (by omega)]; simp
theorem total (t n:Int) (t0:1 ≤ t) (t1:t ≤ 5) (n0:0 ≤ n) (n1:n < 16777216):Con E 30 91 [.int .i64 t,.int .i64 n] (.int .i64 (t + (lenO n).length + n)):=by
  have s:=P5.size n
  rw [len_sz n n0 n1] at s
  have q:=lenO_len n
  exact P5.total_in t n _ t0 t1 s (by omega) (by omega) n0 n1
def Szd (e:El) (r:Int):Prop:=1 ≤ r ∧ r ≤ 2000000000 ∧ (((enc e.core).length:Int) ≤ 1048576 → r=((enc e.core).length:Int)) ∧ (1048576 < ((enc e.core).length:Int) → 1048576 < r)
def Cnd (e:El) (r:Int):Prop:=0 ≤ r ∧ r ≤ 1000000000 ∧ (((e.b ++ encs (El.cores e.s)).length:Int) ≤ 1048576 → r=((e.b ++ encs (El.cores e.s)).length:Int)) ∧ (1048576 < ((e.b ++ encs (El.cores e.s)).length:Int) → 1048576 < r)
theorem size_of (e:El) (he:e.ok) (hv:vld e.core) (r:Int) (hr:Cnd e r) (N:Nat) (C:Con E N 90 [e.av] (.int .i64 r)):∃ q,Con E (N + 41) 69 [e.av] (.int .i64 q) ∧ Szd e q:=by
  obtain ⟨v1,v2,v3,v4⟩:=(vld_eq e).1 hv
  obtain ⟨r0,r1,r2,r3⟩:=hr
  have tl:=tagO_len e.c e.k e.n
  have ll:=lenO_len ((e.b ++ encs (El.cores e.s)).length:Int)
  have C':=C (N + 40) (by omega) 0
  rw [El.av_eq] at C'
  have el:((enc e.core).length:Int)=(TG.tagO e.c e.k e.n).length + (lenO ((e.b ++ encs (El.cores e.s)).length:Int)).length + (e.b ++ encs (El.cores e.s)).length:=by
    rw [enc_eq,List.length_append,List.length_append]; omega
  by_cases h:1048576 < r
  · refine ⟨r,con_of E_fn69 (by simp [AV.pureL,El.av_pure]) (Nat.le_of_ble_eq_true rfl) rfl rfl (g:=[]) ?_,by omega,by omega,fun q => ?_,fun _ => h⟩
    · rw [body_69,c69]
      simp [El.av_eq,C',h]
    · have:=r2 (by omega); omega
  · have le:((e.b ++ encs (El.cores e.s)).length:Int) ≤ 1048576:=by
      by_cases q:1048576 < ((e.b ++ encs (El.cores e.s)).length:Int)
      · exact absurd (r3 q) h
      · omega
    have re:=r2 le
    have T:=total ((TG.tagO e.c e.k e.n).length:Int) r (by omega) (by omega) r0 (by omega)
    have S:=tag_size e.c e.k e.n he.cb.1 he.cb.2 he.nb.1 he.nb.2 v1
    have T':=T (N + 40) (by omega) 0
    have S':=S (N + 40) (by omega) 0
    refine ⟨((TG.tagO e.c e.k e.n).length:Int) + (lenO r).length + r,con_of E_fn69 (by simp [AV.pureL,El.av_pure]) (Nat.le_of_ble_eq_true rfl) rfl rfl (g:=[]) ?_,?_⟩
    · rw [body_69,c69]
      simp [El.av_eq,C',h,T',S']
    · have ll2:=lenO_len r
      refine ⟨by omega,by omega,fun q => ?_,fun q => ?_⟩
      · rw [el,← re]
      · rw [el,← re] at q; exact q
def b90:Code:=lp c90 0
abbrev S (f:Bool) (s:List El) (c:Option Nat) (i:Nat) (n:Int):St:=⟨[(3,.int .i64 n),(14,.sl f (El.avs s) c),(15,.int .i64 (s.length:Int)),(16,.int .i64 (i:Int))],[]⟩
theorem round (q k1:Nat) (f s c) (i:Nat) (n r:Int) (x:El) (hx:s[i]? = some x) (ls:s.length ≤ 1000000000) (n0:0 ≤ n) (n1:n ≤ 1048577) (r0:0 ≤ r) (r1:r ≤ 2000000000) (B:∀ h,aCall E q 0 69 [x.av] h=some (.ret (.int .i64 r),h)) :
    rnd fn90 b90 q k1 (S f s c i n)=some (.normal,S f s c (i + 1) (min (n + r) 1048577)):=by
  have hi:i < s.length:=(List.getElem?_eq_some_iff.1 hx).1
  have ix:=El.at_ f c s i x hx
  have w:=w64' ((i:Int) + 1) (by omega) (by omega)
  have w2:=w64' (n + r) (by omega) (by omega)
  have mn:(if 1048577 < n + r then 1048577 else n + r)=min (n + r) 1048577:=by rw [Int.min_def]; split <;> split <;> omega
  rw [El.av_eq] at B
  simp [b90,lp,lps,c90,-indexAddrA,ix,w,w2,hi,B,mn]
theorem last (q k1:Nat) (f s c) (n:Int) :
    rnd fn90 b90 q k1 (S f s c s.length n)=some (.exit 0,⟨[(3,.int .i64 n),(14,.sl f (El.avs s) c),(15,.int .i64 (s.length:Int)),(16,.int .i64 (s.length:Int)),(17,.bool false)],[]⟩):=by
  simp [b90,lp,lps,c90]
end E6
end
end
section
open Ab Go TabE Sp E6
namespace E7
def Inv (n:Int) (t:Nat):Prop:=0 ≤ n ∧ n ≤ 1048577 ∧ ((t:Int) ≤ 1048576 → n=t) ∧ (1048576 < (t:Int) → n=1048577)
theorem loop (K:Nat) (f s c) (ls:s.length ≤ 1000000000) (B:∀ x ∈ s,∃ r,(∀ h,aCall E K 0 69 [x.av] h=some (.ret (.int .i64 r),h)) ∧ Szd x r) :
    ∀ (rest:List El) (i:Nat) (n:Int) (t:Nat) (k:Nat),s.drop i=rest → i + rest.length=s.length → Inv n t → rest.length < k →
      ∃ m,Inv m (t + (encs (El.cores rest)).length) ∧ aLoop (aCode E (aCall E K) (dcall (aRun E K)) K 1 fn90 b90) (cleanS 1 ((firstReg b90).bind fn90.head)) k (S f s c i n) =
        some (.exit 0,⟨[(3,.int .i64 m),(14,.sl f (El.avs s) c),(15,.int .i64 (s.length:Int)),(16,.int .i64 (s.length:Int)),(17,.bool false)],[]⟩)
  | [],i,n,t,k,h1,h2,hn,hk => by
    obtain ⟨k,rfl⟩:∃ j,k=j + 1:=⟨k - 1,by simp at hk; omega⟩
    obtain rfl:i=s.length:=by simpa using h2
    exact ⟨n,by simpa [El.cores,encs] using hn,aLoop_end (last K K f s c n) (by simp)⟩
  | x :: rest,i,n,t,k,h1,h2,hn,hk => by
    obtain ⟨k,rfl⟩:∃ j,k=j + 1:=⟨k - 1,by simp at hk; omega⟩
    have hx:s[i]? = some x:=by
      have:=congrArg (fun l => l[0]?) h1
      simpa [List.getElem?_drop] using this
    have hd:s.drop (i + 1)=rest:=by
      have:=congrArg List.tail h1
      simpa [List.tail_drop] using this
    obtain ⟨r,hB,z1,z2,z3,z4⟩:=B x (List.mem_of_getElem? hx)
    obtain ⟨n0,n1,n2,n3⟩:=hn
    have hn':Inv (min (n + r) 1048577) (t + (enc x.core).length):=by
      refine ⟨by omega,by omega,fun q => ?_,fun q => ?_⟩
      · have a:=n2 (by omega); have b:=z3 (by omega); omega
      · by_cases ht:1048576 < (t:Int)
        · have:=n3 ht; omega
        · have a:=n2 (by omega)
          by_cases hz:1048576 < ((enc x.core).length:Int)
          · have:=z4 hz; omega
          · have:=z3 (by omega); omega
    obtain ⟨m,hm,he⟩:=loop K f s c ls B rest (i + 1) _ _ k hd (by simp at h2; omega) hn' (by simp at hk; omega)
    refine ⟨m,?_,?_⟩
    · rw [El.cores,encs,List.length_append]
      rwa [Nat.add_assoc] at hm
    · rw [aLoop_succ (round K K f s c i n r x hx ls n0 n1 (by omega) z2 hB)]
      exact he
theorem content (e:El) (hs:e.sm) (hv:vld e.core) (N:Nat) (B:∀ x ∈ e.s,∃ r,Con E N 69 [x.av] (.int .i64 r) ∧ Szd x r):∃ r,Con E (N + e.s.length + 41) 90 [e.av] (.int .i64 r) ∧ Cnd e r:=by
  obtain ⟨v1,v2,v3,v4⟩:=(vld_eq e).1 hv
  obtain ⟨s1,s2,s3⟩:=(El.sm_eq e).1 hs
  have lb:=bs_length e.b
  have ls:=El.avs_len e.s
  cases hk:e.k with
  | false =>
    have es:e.s=[]:=v3 hk
    refine ⟨(e.b.length:Int),con_of E_fn90 (by simp [AV.pureL,El.av_pure]) (Nat.le_of_ble_eq_true rfl) rfl rfl (g:=[]) ?_,by omega,by omega,fun q => by rw [es]; simp [El.cores,encs],fun q => by rw [es] at q; simpa [El.cores,encs] using q⟩
    rw [body_90,c90]
    simp [El.av_eq,↓s_seq,↓s_reg,↓s_cond,↓s_cons,s_nil,s_val,s_rgx,s_sqn,s_sqr,s_cdb,s_ret',s_finr,s_fin1,s_fix,s_clean,o_tmp,o_int,l_hit,l_miss,ol_nil,ol_cons,ol_some,x_assign,x_un,x_callB,frame0,resL,resA,results1,AV.pure,keepT,x_box,bxx,x_load,ldx,x_fieldAddr,newK,genOf,setK,lookK,writeL,writeC,readC,conts,TyI.mk1,fieldAddrA,appendA,copyA,builtinA,AV.cells,gcH,reach,keysT,keepK,inKs,AV.keys,AV.keysL,Ty.isAgg,unA,sc_int,sc_bool,sc_sl,bs_length,sl_int,hk]
  | true =>
    have eb:e.b=[]:=v2 hk
    obtain ⟨m,hm,L⟩:=loop (N + e.s.length + 40) e.fs e.s e.cs s2 (fun x hx => by
      obtain ⟨r,h1,h2⟩:=B x hx
      exact ⟨r,h1 _ (by omega) 0,h2⟩) e.s 0 0 0 (N + e.s.length + 40) rfl (by simp) ⟨by omega,by omega,fun _ => rfl,fun q => by simp at q⟩ (by omega)
    obtain ⟨m0,m1,m2,m3⟩:=hm
    rw [Nat.zero_add] at m2 m3
    refine ⟨m,con_of E_fn90 (by simp [AV.pureL,El.av_pure]) (Nat.le_of_ble_eq_true rfl) rfl rfl (g:=[]) ?_,m0,by omega,fun q => by rw [eb] at q ⊢; simp at q ⊢; exact m2 q,fun q => by rw [eb] at q; simp at q; have:=m3 q; omega⟩
    rw [body_90,c90]
    simp [b90,lp,lps,c90,firstReg,S] at L
    simp [El.av_eq,↓s_seq,↓s_reg,↓s_cond,↓s_block,↓s_cons,s_nil,s_loop,firstReg,s_val,s_rgx,s_sqn,s_cdb,s_bke,s_ret',s_skip',s_finr,s_fin1,s_fix,s_clean,o_tmp,o_int,l_hit,l_miss,ol_nil,ol_cons,ol_some,x_move,x_assign,x_un,x_callB,frame0,resL,resA,results1,AV.pure,keepT,x_box,bxx,x_load,ldx,x_fieldAddr,newK,genOf,setK,lookK,writeL,writeC,readC,conts,TyI.mk1,fieldAddrA,appendA,copyA,builtinA,AV.cells,gcH,reach,keysT,keepK,inKs,AV.keys,AV.keysL,Ty.isAgg,unA,sc_int,sc_bool,sc_sl,sl_int,hk,L,ls]
theorem size:∀ e:El,e.ok → e.sm → vld e.core → ∃ N r,Con E N 69 [e.av] (.int .i64 r) ∧ Szd e r:=by
  refine El.ind fun e ih he hs hv => ?_
  obtain ⟨v1,v2,v3,v4⟩:=(vld_eq e).1 hv
  obtain ⟨s1,s2,s3⟩:=(El.sm_eq e).1 hs
  obtain ⟨N,hN⟩:=unif (P:=fun (x:El) (n:Nat) => ∃ r,Con E n 69 [x.av] (.int .i64 r) ∧ Szd x r) (fun x n m ⟨r,h1,h2⟩ hm => ⟨r,h1.mono hm,h2⟩) e.s (fun x hx => by
    obtain ⟨n,r,h⟩:=ih x hx (he.sub x hx) (s3 x hx) (vlds_all.1 v4 x hx)
    exact ⟨n,r,h⟩)
  obtain ⟨r,h1,h2⟩:=content e hs hv N hN
  obtain ⟨q,h3,h4⟩:=size_of e he hv r h2 _ h1
  exact ⟨_,q,h3,h4⟩
theorem content_ok (e:El) (he:e.ok) (hs:e.sm) (hv:vld e.core):∃ N r,Con E N 90 [e.av] (.int .i64 r) ∧ Cnd e r:=by
  obtain ⟨v1,v2,v3,v4⟩:=(vld_eq e).1 hv
  obtain ⟨s1,s2,s3⟩:=(El.sm_eq e).1 hs
  obtain ⟨N,hN⟩:=unif (P:=fun (x:El) (n:Nat) => ∃ r,Con E n 69 [x.av] (.int .i64 r) ∧ Szd x r) (fun x n m ⟨r,h1,h2⟩ hm => ⟨r,h1.mono hm,h2⟩) e.s (fun x hx => by
    obtain ⟨n,r,h⟩:=size x (he.sub x hx) (s3 x hx) (vlds_all.1 v4 x hx)
    exact ⟨n,r,h⟩)
  obtain ⟨r,h1,h2⟩:=content e hs hv N hN
  exact ⟨_,r,h1,h2⟩
end E7
end
section
open Ab Go TabE
attribute [local simp ↓] s_seq s_reg s_regd s_cond s_block s_cons s_consG
attribute [local simp] s_nil s_loop s_round s_lpn s_lpe s_lpr firstReg s_gt s_gf s_wb s_wu s_val s_valN s_skip s_calls s_callP s_cax lookR flatR pureKs s_ret s_rgx s_sqn s_sqr s_sqe s_cdb s_bkn s_bkr s_bke s_exit s_ret' s_skip' s_finr s_finn s_fin1 s_fix s_clean s_gc0 o_tmp o_int o_bool o_nil o_str o_fn o_nil' l_hit l_miss l_nil ol_nil ol_cons ol_some x_move x_assign x_pick pk_t pk_f x_bin bn_s x_un x_extract x_callF cl_no x_callB x_callBF frzV x_conv cvx convA frame0 binA intOp resL resA results1 sealLW AV.pure AV.pureL keepT x_alloc x_box bxx x_build bdx x_buildSlice bsx x_buildSliceF bsf x_load ldx x_store stx x_slice slx x_fieldAddr x_field x_index ixx x_indexAddr iax x_makeSlice msx x_makeSliceF msf x_nilCheck newK genOf setK lookK fillA writeL writeC readC conts TyI.mk1 sliceA boundsA boundsB fitsA numA indexAddrA fieldAddrA partA fieldA indexA appendA copyA builtinA AV.cells chunk gcH reach keysT keepK inKs AV.keys AV.keysL Ty.isAgg eq1 eqL convA.go ltI w_u8 w_u32 w_u64 w_i64 w_fdiv w_tdiv w_tmod IntKind.bits unA sc_int sc_bool sc_str sc_sl sc_ref sc_ptr sc_pel sc_nilp sc_fn sc_nilf sc_if sc_nili sc_agg sc_tup sc_mem bs_pure bs_kl bs_length bs_cells bs_all sl_row sealRow sealY sl_int sl_bool sl_str sl_sl sl_nilp sl_nilf sl_nili sl_pel sl_agg sl_tup sl_fn sl_if nat_1 bs_cons bs_nil i_beq i_bne x_mkF x_mkI x_tassert x_panic s_pan s_sqp s_bkp s_finp s_fixp s_lpp s_rgp s_retp s_site s_stxN s_stxO x_callT clx El.avs_len
section
open Ab Go TabE Sp E6 E7
namespace E8
theorem len_put (n:Int) (n0:0 ≤ n) (n1:n ≤ 16777215):Con E 10 94 [.int .i64 n] (.tup [.sl false (bs (lenO n)) (some (lenO n).length),.int .i64 0]):=by
  unfold lenO
  split
  · exact P1.put_1 n n0 (by omega)
  split
  · exact P1.put_2 n (by omega) (by omega)
  split
  · exact P1.put_3 n (by omega) (by omega)
  · exact P1.put_4 n (by omega) (by omega)
abbrev R (pre:List Int) (z:Nat):AObj:=⟨bs (pre ++ List.replicate z 0),true,true,true,1,false⟩
theorem w_row (pre ys:List Int) (z L:Nat) (hL:pre.length=L) (h:ys.length ≤ z):writeL (bs (pre ++ List.replicate z 0)) L (bs ys)=bs (pre ++ ys ++ List.replicate (z - ys.length) 0):=by
  subst hL
  unfold writeL
  rw [bs_take,bs_drop,bs_length,← bs_append,← bs_append]
  congr 1
  rw [List.take_left,List.append_assoc,List.append_assoc]
  congr 1
  rw [List.drop_append,List.drop_of_length_le (by omega),List.nil_append,Nat.add_sub_cancel_left,List.drop_replicate]
theorem wc (pre ys:List Int) (z L:Nat) (hL:pre.length=L) (h:ys.length ≤ z) (own:Heap):writeC (((0,0,0),R pre z) :: own) (0,0,0) L (bs ys)=some (((0,0,0),R (pre ++ ys) (z - ys.length)) :: own):=by
  unfold writeC
  simp only [lookK,if_true]
  rw [if_pos ⟨trivial,trivial,by rw [bs_length,bs_length,List.length_append,List.length_replicate]; omega,bs_scal ys⟩]
  simp only [setK,if_true,w_row pre ys z L hL h]
theorem op_put {run:RunF} {slot:Nat} {cs:List AV} {L L' n:Nat} {o o':AObj} {own:Heap} (hp:AV.pureL cs=true) (k1:AV.keysL o.cells=[]) (k2:AV.keysL o'.cells=[]) (r1:∀ φ,AV.rnL φ o.cells=o.cells) (r2:∀ φ,AV.rnL φ o'.cells=o'.cells)
    (hr:run 70 [.ref (0,0,0) 0 L (some n),.agg cs] [((0,0,0),o)]=some (.ret (.ref (0,0,0) 0 L' (some n)),[((0,0,0),o')])) :
    opened [true,false] false run slot 70 [.ref (0,0,0) 0 L (some n),.agg cs] (((0,0,0),o) :: own)=some (.ret (.ref (0,0,0) 0 L' (some n)),((0,0,0),o') :: own):=by
  have e1:sealM (sealA 20) [true,false] (((0,0,0),o) :: own) [.ref (0,0,0) 0 L (some n),.agg cs]=some ([.ref (0,0,0) 0 L (some n),.agg cs],((0,0,0),o) :: own):=by
    simp [sealM,sl_agg,hp]
  have kc:AV.keysL cs=[]:=AV.keysL_pure _ hp
  have rc:∀ φ,AV.rnL φ cs=cs:=fun φ => rnL_pure cs hp
  unfold opened
  rw [e1]
  have e2:AV.keysL [.ref (0,0,0) 0 L (some n),.agg cs]=[(0,0,0)]:=by simp [AV.keysL,AV.keys,kc]
  simp only [e2]
  have e3:dd (reach (((0,0,0),o) :: own) 3 [(0,0,0)])=[(0,0,0)]:=by
    simp [reach,lookK,k1,dd]
  rw [e3]
  unfold lendA
  have e4:lendH (((0,0,0),o) :: own) (inK [(0,0,0)]) [(0,0,0)]=some [((0,0,0),o)]:=by
    simp [lendH,lookK,inK,posK,r1]
  rw [e4]
  simp only [e2]
  have e6:closedH (((0,0,0),o) :: own) [(0,0,0)] [(0,0,0)]=true:=by simp [closedH,lookK,k1]
  rw [if_pos ⟨e6,by rfl⟩]
  have e5:AV.rnL (inK [(0,0,0)]) [.ref (0,0,0) 0 L (some n),.agg cs]=[.ref (0,0,0) 0 L (some n),.agg cs]:=by simp [AV.rnL,AV.rn,rc,inK,posK]
  rw [e5,hr]
  have e7:∀ o'':AObj,AV.keysL o''.cells=[] → dd (reach [((0,0,0),o'')] 3 ([(0,0,0)] ++ [(0,0,0)]))=[(0,0,0)]:=fun o'' h => by simp [reach,lookK,h,dd]
  have e8:AV.keysL [AV.ref (0,0,0) 0 L' (some n)]=[(0,0,0)]:=rfl
  have e9:lentKs 1=[(0,0,0)]:=rfl
  have e10:closedH [((0,0,0),o')] [(0,0,0)] [(0,0,0)]=true:=by simp [closedH,lookK,k2]
  simp only [backR,Bool.false_eq_true,if_false,backV,back,List.length_singleton,e8,e9,e7 o' k2,backA]
  rw [if_pos ⟨e10,by rfl,by rfl,by rfl⟩]
  simp [AV.rnL,AV.rn,outK,putAll,lookK,setK,r2]
theorem R_keys (pre z):AV.keysL (R pre z).cells=[]:=bs_kl _
theorem R_rn (pre z φ):AV.rnL φ (R pre z).cells=(R pre z).cells:=rnL_pure _ (bs_pure _)
def b70:Code:=lp c70 0
abbrev S (L n:Nat) (f:Bool) (s:List El) (c:Option Nat) (i:Nat) (pre:List Int) (z:Nat):St:=⟨[(0,.ref (0,0,0) 0 L (some n)),(33,.sl f (El.avs s) c),(34,.int .i64 (s.length:Int)),(35,.int .i64 (i:Int))],[((0,0,0),R pre z)]⟩
theorem round (q k1:Nat) (L L' n:Nat) (f s c) (i:Nat) (pre pre':List Int) (z z':Nat) (x:El) (hx:s[i]? = some x) (ls:s.length ≤ 1000000000)
    (B:∀ own slot,opened [true,false] false (aRun E q) slot 70 [.ref (0,0,0) 0 L (some n),.agg (ec x)] (((0,0,0),R pre z) :: own)=some (.ret (.ref (0,0,0) 0 L' (some n)),((0,0,0),R pre' z') :: own)) :
    rndO fn70 b70 q k1 (S L n f s c i pre z)=some (.normal,S L' n f s c (i + 1) pre' z'):=by
  have hi:i < s.length:=(List.getElem?_eq_some_iff.1 hx).1
  have ix:=El.at_ f c s i x hx
  have w:=w64' ((i:Int) + 1) (by omega) (by omega)
  simp [R] at B
  have kk:∀ pre z,AV.keysL (bs (pre ++ List.replicate z 0))=[]:=fun _ _ => bs_kl _
  simp [b70,lp,lps,c70,-indexAddrA,ix,w,hi,B]
theorem last (q k1:Nat) (L n:Nat) (f s c) (pre:List Int) (z:Nat) :
    rndO fn70 b70 q k1 (S L n f s c s.length pre z)=some (.exit 0,⟨[(0,.ref (0,0,0) 0 L (some n)),(33,.sl f (El.avs s) c),(34,.int .i64 (s.length:Int)),(35,.int .i64 (s.length:Int)),(36,.bool false)],[((0,0,0),R pre z)]⟩):=by
  simp [b70,lp,lps,c70]
end E8
end
end
section
open Ab Go TabE
attribute [local simp ↓] s_seq s_reg s_regd s_cond s_block s_cons s_consG
attribute [local simp] s_nil s_loop s_round s_lpn s_lpe s_lpr firstReg s_gt s_gf s_wb s_wu s_val s_valN s_skip s_calls s_callP s_cax lookR flatR pureKs s_ret s_rgx s_sqn s_sqr s_sqe s_cdb s_bkn s_bkr s_bke s_exit s_ret' s_skip' s_finr s_finn s_fin1 s_fix s_clean s_gc0 o_tmp o_int o_bool o_nil o_str o_fn o_nil' l_hit l_miss l_nil ol_nil ol_cons ol_some x_move x_assign x_pick pk_t pk_f x_bin bn_s x_un x_extract x_callF cl_no x_callB x_callBF frzV x_conv cvx convA frame0 binA intOp resL resA results1 sealLW AV.pure AV.pureL keepT x_alloc x_box bxx x_build bdx x_buildSlice bsx x_buildSliceF bsf x_load ldx x_store stx x_slice slx x_fieldAddr x_field x_index ixx x_indexAddr iax x_makeSlice msx x_makeSliceF msf x_nilCheck newK genOf setK lookK fillA readC conts TyI.mk1 sliceA boundsA boundsB fitsA numA indexAddrA fieldAddrA partA fieldA indexA appendA copyA builtinA AV.cells chunk gcH reach keysT keepK inKs AV.keys AV.keysL Ty.isAgg eq1 eqL convA.go ltI w_u8 w_u32 w_u64 w_i64 w_fdiv w_tdiv w_tmod IntKind.bits unA sc_int sc_bool sc_str sc_sl sc_ref sc_ptr sc_pel sc_nilp sc_fn sc_nilf sc_if sc_nili sc_agg sc_tup sc_mem bs_pure bs_kl bs_length bs_cells bs_all sl_row sealRow sealY sl_int sl_bool sl_str sl_sl sl_nilp sl_nilf sl_nili sl_pel sl_agg sl_tup sl_fn sl_if nat_1 bs_cons bs_nil i_beq i_bne x_mkF x_mkI x_tassert x_panic s_pan s_sqp s_bkp s_finp s_fixp s_lpp s_rgp s_retp s_site s_stxN s_stxO x_callT clx El.avs_len
section
open Ab Go TabE Sp E8
namespace E9
def Puts (N:Nat) (x:El):Prop:=∀ k,N ≤ k → ∀ (pre:List Int) (z n:Nat),pre.length + z=n → (enc x.core).length ≤ z → n ≤ 4000000 →
  aRun E k 70 [.ref (0,0,0) 0 pre.length (some n),.agg (ec x)] [((0,0,0),R pre z)]=some (.ret (.ref (0,0,0) 0 (pre.length + (enc x.core).length) (some n)),[((0,0,0),R (pre ++ enc x.core) (z - (enc x.core).length))])
theorem loop (K:Nat) (n:Nat) (hn:n ≤ 4000000) (f s c) (ls:s.length ≤ 1000000000) (W:∀ x ∈ s,Puts K x) :
    ∀ (rest:List El) (i:Nat) (pre:List Int) (z:Nat) (k:Nat),s.drop i=rest → i + rest.length=s.length → pre.length + z=n → (encs (El.cores rest)).length ≤ z → rest.length < k →
      aLoop (aCode E (site fn70 (aRun E K)) (dcall (aRun E K)) K 1 fn70 b70) (cleanS 1 ((firstReg b70).bind fn70.head)) k (S pre.length n f s c i pre z) =
        some (.exit 0,⟨[(0,.ref (0,0,0) 0 (pre.length + (encs (El.cores rest)).length) (some n)),(33,.sl f (El.avs s) c),(34,.int .i64 (s.length:Int)),(35,.int .i64 (s.length:Int)),(36,.bool false)],[((0,0,0),R (pre ++ encs (El.cores rest)) (z - (encs (El.cores rest)).length))]⟩)
  | [],i,pre,z,k,h1,h2,hp,hz,hk => by
    obtain ⟨k,rfl⟩:∃ j,k=j + 1:=⟨k - 1,by simp at hk; omega⟩
    obtain rfl:i=s.length:=by simpa using h2
    rw [aLoop_end (last K K pre.length n f s c pre z) (by simp)]
    simp [El.cores,encs]
  | x :: rest,i,pre,z,k,h1,h2,hp,hz,hk => by
    obtain ⟨k,rfl⟩:∃ j,k=j + 1:=⟨k - 1,by simp at hk; omega⟩
    have hx:s[i]? = some x:=by
      have:=congrArg (fun l => l[0]?) h1
      simpa [List.getElem?_drop] using this
    have hd:s.drop (i + 1)=rest:=by
      have:=congrArg List.tail h1
      simpa [List.tail_drop] using this
    rw [El.cores,encs,List.length_append] at hz
    have B:=fun own slot => op_put (own:=own) (slot:=slot) (cs:=ec x) rfl (R_keys pre z) (R_keys _ _) (R_rn pre z) (R_rn _ _) (W x (List.mem_of_getElem? hx) K (Nat.le_refl _) pre z n hp (by omega) hn)
    rw [aLoop_succ (round K K _ _ n f s c i pre _ z _ x hx ls B)]
    have q:=loop K n hn f s c ls W rest (i + 1) (pre ++ enc x.core) (z - (enc x.core).length) k hd (by simp at h2; omega) (by rw [List.length_append]; omega) (by omega) (by simp at hk; omega)
    rw [List.length_append] at q
    rw [q]
    simp only [El.cores,encs,List.length_append,List.append_assoc,Nat.add_assoc,Nat.sub_sub]
theorem puts:∀ e:El,e.ok → e.sm → vld e.core → (enc e.core).length ≤ 1048576 → ∃ N,Puts N e:=by
  refine El.ind fun e ih he hs hv hl => ?_
  obtain ⟨v1,v2,v3,v4⟩:=(vld_eq e).1 hv
  obtain ⟨s1,s2,s3⟩:=(El.sm_eq e).1 hs
  have tl:=tagO_len e.c e.k e.n
  have el:=enc_eq e
  obtain ⟨ct,hct⟩:∃ ct,e.b ++ encs (El.cores e.s)=ct:=⟨_,rfl⟩
  rw [hct] at el
  have lel:(enc e.core).length=(TG.tagO e.c e.k e.n).length + ((lenO (ct.length:Int)).length + ct.length):=by rw [el,List.length_append,List.length_append]
  have lct:ct.length=e.b.length + (encs (El.cores e.s)).length:=by rw [← hct,List.length_append]
  have sub_le:∀ x ∈ e.s,(enc x.core).length ≤ (encs (El.cores e.s)).length:=by
    intro x hx
    clear ih he hs hv hl v3 v4 el hct lel lct s2 s3
    generalize e.s=l at hx ⊢
    induction l with
    | nil => cases hx
    | cons y l ih =>
      rw [El.cores,encs,List.length_append]
      rcases List.mem_cons.1 hx with rfl | hx
      · omega
      · have:=ih hx; omega
  obtain ⟨N,hN⟩:=unif (P:=fun (x:El) (n:Nat) => Puts n x) (fun x n m h hm k hk => h k (by omega)) e.s (fun x hx => ih x hx (he.sub x hx) (s3 x hx) (vlds_all.1 v4 x hx) (by have:=sub_le x hx; omega))
  obtain ⟨M,r,C,c0,c1,c2,c3⟩:=E7.content_ok e he hs hv
  rw [hct] at c2 c3
  have re:=c2 (by omega)
  subst re
  have LP:=len_put (ct.length:Int) (by omega) (by omega)
  have TP:=E6.tag_put e.c e.k e.n he.cb.1 he.cb.2 he.nb.1 he.nb.2 v1
  refine ⟨N + M + e.s.length + 40,fun k hk pre z n hp hz hn => ?_⟩
  obtain ⟨K,rfl⟩:∃ K,k=K + 1:=⟨k - 1,by omega⟩
  rw [aRun_fn rfl E_fn70 rfl (Nat.le_of_ble_eq_true rfl),body_70,c70]
  have C':=C K (by omega) 0
  have LP':=LP K (by omega) 0
  have TP':=TP K (by omega) 0
  rw [El.av_eq] at C'
  obtain ⟨t,ht⟩:∃ t,TG.tagO e.c e.k e.n=t:=⟨_,rfl⟩
  obtain ⟨lo,hlo⟩:∃ lo,lenO (ct.length:Int)=lo:=⟨_,rfl⟩
  rw [ht] at TP' tl lel el
  rw [hlo] at LP' lel el
  have w1:=wc pre t z pre.length rfl (by omega)
  have w2:=wc (pre ++ t) lo (z - t.length) (pre.length + t.length) (by rw [List.length_append]) (by omega)
  have w3:=wc (pre ++ t ++ lo) e.b (z - t.length - lo.length) (pre.length + t.length + lo.length) (by rw [List.length_append,List.length_append]) (by omega)
  have lr:∀ (p:List Int) (y:Nat),(bs (p ++ List.replicate y 0)).length=p.length + y:=fun p y => by rw [bs_length,List.length_append,List.length_replicate]
  have g1:pre.length + t.length ≤ n:=by omega
  have g2:pre.length + (t.length + lo.length) ≤ n:=by omega
  have g3:pre.length + (t.length + (lo.length + e.b.length)) ≤ n:=by omega
  have g0:pre.length ≤ pre.length + z:=by omega
  have L:=loop K n hn e.fs e.s e.cs s2 (fun x hx => fun k hk => hN x hx k (by omega)) e.s 0 (pre ++ t ++ lo ++ e.b) (z - t.length - lo.length - e.b.length) K rfl (by simp) (by simp only [List.length_append]; omega) (by omega) (by omega)
  simp [b70,lp,lps,c70,firstReg,S,R,List.append_assoc,Nat.add_assoc,Nat.sub_sub] at L w1 w2 w3
  rw [el,← hct]
  simp [El.av_eq,-s_round,TP',LP',C',w1,w2,w3,lr,g1,g2,g3,L,List.append_assoc,Nat.add_assoc,Nat.sub_sub]
end E9
end
end
section
open Ab Go TabE
attribute [local simp ↓] s_seq s_reg s_regd s_cond s_block s_cons s_consG
attribute [local simp] s_nil s_loop s_round s_lpn s_lpe s_lpr firstReg s_gt s_gf s_wb s_wu s_val s_valN s_skip s_calls s_callP s_cax lookR flatR pureKs s_ret s_rgx s_sqn s_sqr s_sqe s_cdb s_bkn s_bkr s_bke s_exit s_ret' s_skip' s_finr s_finn s_fin1 s_fix s_clean s_gc0 o_tmp o_int o_bool o_nil o_str o_fn o_nil' l_hit l_miss l_nil ol_nil ol_cons ol_some x_move x_assign x_pick pk_t pk_f x_bin bn_s x_un x_extract x_callF cl_no x_callB x_callBF frzV x_conv cvx convA frame0 binA intOp resL resA results1 sealLW AV.pure AV.pureL keepT x_alloc x_box bxx x_build bdx x_buildSlice bsx x_buildSliceF bsf x_load ldx x_store stx x_slice slx x_fieldAddr x_field x_index ixx x_indexAddr iax x_makeSlice msx x_makeSliceF msf x_nilCheck newK genOf setK lookK fillA writeL writeC readC conts TyI.mk1 sliceA boundsA boundsB fitsA numA indexAddrA fieldAddrA partA fieldA indexA appendA copyA builtinA AV.cells chunk gcH reach keysT keepK inKs AV.keys AV.keysL Ty.isAgg eq1 eqL convA.go ltI w_u8 w_u32 w_u64 w_i64 w_fdiv w_tdiv w_tmod IntKind.bits unA sc_int sc_bool sc_str sc_sl sc_ref sc_ptr sc_pel sc_nilp sc_fn sc_nilf sc_if sc_nili sc_agg sc_tup sc_mem bs_pure bs_kl bs_length bs_cells bs_all sl_row sealRow sealY sl_int sl_bool sl_str sl_sl sl_nilp sl_nilf sl_nili sl_pel sl_agg sl_tup sl_fn sl_if nat_1 bs_cons bs_nil i_beq i_bne x_mkF x_mkI x_tassert x_panic s_pan s_sqp s_bkp s_finp s_fixp s_lpp s_rgp s_retp s_site s_stxN s_stxO x_callT clx El.avs_len
section
open Ab Go TabE Sp E8
namespace E10
theorem check (e:El) (he:e.ok):∃ N,Con E N 32 [e.av] (.int .i64 (chk e.core 1 0 0).1):=by
  obtain ⟨N,M⟩:=E5.measure e he
  have e1:(E5.meas e).1=(chk e.core 1 0 0).1:=by unfold E5.meas; split <;> simp_all
  rw [e1] at M
  have M':=M (N + 10) (by omega) 0
  rw [El.av_eq] at M'
  refine ⟨N + 10 + 1,con_of E_fn32 (by simp [AV.pureL,El.av_pure]) (Nat.le_of_ble_eq_true rfl) rfl rfl (g:=[]) ?_⟩
  rw [body_32,c32]
  simp [El.av_eq,M']
theorem count (e:El) (he:e.ok):∃ N,Con E N 29 [e.av] (.int .i64 (E5.meas e).2.1):=by
  obtain ⟨N,M⟩:=E5.measure e he
  have M':=M (N + 10) (by omega) 0
  rw [El.av_eq] at M'
  refine ⟨N + 10 + 1,con_of E_fn29 (by simp [AV.pureL,El.av_pure]) (Nat.le_of_ble_eq_true rfl) rfl rfl (g:=[]) ?_⟩
  rw [body_29,c29]
  simp [El.av_eq,M']
theorem depth (e:El) (he:e.ok):∃ N,Con E N 30 [e.av] (.int .i64 (E5.meas e).2.2):=by
  obtain ⟨N,M⟩:=E5.measure e he
  have M':=M (N + 10) (by omega) 0
  rw [El.av_eq] at M'
  refine ⟨N + 10 + 1,con_of E_fn30 (by simp [AV.pureL,El.av_pure]) (Nat.le_of_ble_eq_true rfl) rfl rfl (g:=[]) ?_⟩
  rw [body_30,c30]
  simp [El.av_eq,M']
theorem size_bad (e:El) (he:e.ok) (h:(chk e.core 1 0 0).1 ≠ 0):∃ N,Con E N 28 [e.av] (.int .i64 0):=by
  obtain ⟨N,C⟩:=check e he
  have C':=C (N + 10) (by omega) 0
  rw [El.av_eq] at C'
  refine ⟨N + 10 + 1,con_of E_fn28 (by simp [AV.pureL,El.av_pure]) (Nat.le_of_ble_eq_true rfl) rfl rfl (g:=[]) ?_⟩
  rw [body_28,c28]
  simp [El.av_eq,C',h]
theorem size_ok (e:El) (he:e.ok) (hs:e.sm) (h:(chk e.core 1 0 0).1=0):∃ N,Con E N 28 [e.av] (.int .i64 (if (enc e.core).length ≤ 1048576 then ((enc e.core).length:Int) else 0)):=by
  obtain ⟨N,C⟩:=check e he
  obtain ⟨M,r,S,s1,s2,s3,s4⟩:=E7.size e he hs (vld_of _ _ _ _ h)
  rw [h] at C
  have C':=C (N + M + 10) (by omega) 0
  have S':=S (N + M + 10) (by omega) 0
  rw [El.av_eq] at C' S'
  refine ⟨N + M + 10 + 1,con_of E_fn28 (by simp [AV.pureL,El.av_pure]) (Nat.le_of_ble_eq_true rfl) rfl rfl (g:=[]) ?_⟩
  rw [body_28,c28]
  by_cases q:(enc e.core).length ≤ 1048576
  · have:=s3 (by omega)
    subst this
    have q2:¬ (1048576 < ((enc e.core).length:Int)):=by omega
    have q3:¬ (1048576 < (enc e.core).length):=by omega
    simp [El.av_eq,C',S',q,q2,q3]
  · have:=s4 (by omega)
    simp [El.av_eq,C',S',q,this]
theorem put_bad (e:El) (he:e.ok) (h:(chk e.core 1 0 0).1 ≠ 0):∃ N,Con E N 21 [e.av] (.tup [.sl true [] (some 0),.int .i64 (chk e.core 1 0 0).1]):=by
  obtain ⟨N,C⟩:=check e he
  have C':=C (N + 10) (by omega) 0
  rw [El.av_eq] at C'
  refine ⟨N + 10 + 1,con_ofO E_fn21 (by simp [AV.pureL,El.av_pure]) (Nat.le_of_ble_eq_true rfl) rfl (g:=[]) ?_⟩
  rw [body_21,c21]
  simp [El.av_eq,C',h]
theorem op_new {run:RunF} {slot:Nat} {cs ds:List AV} {n:Nat} {o o':AObj} (hp:AV.pureL cs=true) (k1:AV.keysL o.cells=[]) (k2:AV.keysL o'.cells=[]) (r1:∀ φ,AV.rnL φ o.cells=o.cells) (r2:∀ φ,AV.rnL φ o'.cells=o'.cells)
    (hr:run 70 [.ref (0,0,0) 0 0 (some n),.agg cs] [((0,0,0),o)]=some (.ret (.ref (0,0,0) 0 n (some n)),[((0,0,0),o')])) :
    opened [true,false] false run slot 70 [.ref (1,16,0) 0 0 (some n),.agg cs] [((1,1,0),bx ds),((1,16,0),o)]=some (.ret (.ref (1,16,0) 0 n (some n)),[((1,1,0),bx ds),((1,16,0),o')]):=by
  have e1:sealM (sealA 20) [true,false] [((1,1,0),bx ds),((1,16,0),o)] [.ref (1,16,0) 0 0 (some n),.agg cs]=some ([.ref (1,16,0) 0 0 (some n),.agg cs],[((1,1,0),bx ds),((1,16,0),o)]):=by
    simp [sealM,sl_agg,hp]
  have kc:AV.keysL cs=[]:=AV.keysL_pure _ hp
  have rc:∀ φ,AV.rnL φ cs=cs:=fun φ => rnL_pure cs hp
  unfold opened
  rw [e1]
  have e2:AV.keysL [.ref (1,16,0) 0 0 (some n),.agg cs]=[(1,16,0)]:=by simp [AV.keysL,AV.keys,kc]
  simp only [e2]
  have e3:dd (reach [((1,1,0),bx ds),((1,16,0),o)] 3 [(1,16,0)])=[(1,16,0)]:=by simp [reach,lookK,k1,dd]
  rw [e3]
  unfold lendA
  have e4:lendH [((1,1,0),bx ds),((1,16,0),o)] (inK [(1,16,0)]) [(1,16,0)]=some [((0,0,0),o)]:=by simp [lendH,lookK,inK,posK,r1]
  rw [e4]
  simp only [e2]
  have e6:closedH [((1,1,0),bx ds),((1,16,0),o)] [(1,16,0)] [(1,16,0)]=true:=by simp [closedH,lookK,k1]
  rw [if_pos ⟨e6,by rfl⟩]
  have e5:AV.rnL (inK [(1,16,0)]) [.ref (1,16,0) 0 0 (some n),.agg cs]=[.ref (0,0,0) 0 0 (some n),.agg cs]:=by simp [AV.rnL,AV.rn,rc,inK,posK]
  rw [e5,hr]
  have e7:dd (reach [((0,0,0),o')] 3 ([(0,0,0)] ++ [(0,0,0)]))=[(0,0,0)]:=by simp [reach,lookK,k2,dd]
  have e8:AV.keysL [AV.ref (0,0,0) 0 n (some n)]=[(0,0,0)]:=rfl
  have e9:lentKs 1=[(0,0,0)]:=rfl
  have e10:closedH [((0,0,0),o')] [(0,0,0)] [(0,0,0)]=true:=by simp [closedH,lookK,k2]
  simp only [backR,Bool.false_eq_true,if_false,backV,back,List.length_singleton,e8,e9,e7,backA]
  rw [if_pos ⟨e10,by rfl,by rfl,by rfl⟩]
  simp [AV.rnL,AV.rn,outK,putAll,lookK,setK,r2]
theorem put_ok (e:El) (he:e.ok) (hs:e.sm) (h:(chk e.core 1 0 0).1=0) (hl:(enc e.core).length ≤ 1048576):∃ N,Con E N 21 [e.av] (.tup [.sl false (bs (enc e.core)) (some (enc e.core).length),.int .i64 0]):=by
  have hv:=vld_of _ _ _ _ h
  obtain ⟨N,C⟩:=check e he
  obtain ⟨M,r,S,s1,s2,s3,s4⟩:=E7.size e he hs hv
  obtain ⟨Q,P⟩:=E9.puts e he hs hv hl
  rw [h] at C
  have:=s3 (by omega)
  subst this
  have C':=C (N + M + Q + 10) (by omega) 0
  have S':=S (N + M + Q + 10) (by omega) 0
  rw [El.av_eq] at C' S'
  have P':=fun ds slot => op_new (ds:=ds) (slot:=slot) (cs:=ec e) rfl (R_keys [] (enc e.core).length) (R_keys _ _) (R_rn _ _) (R_rn _ _) (by have:=P (N + M + Q + 10) (by omega) [] (enc e.core).length (enc e.core).length (by simp) (by omega) (by omega); simpa using this)
  have q2:¬ (1048576 < ((enc e.core).length:Int)):=by omega
  have q3:¬ (1048576 < (enc e.core).length):=by omega
  refine ⟨N + M + Q + 10 + 1,con_ofO E_fn21 (by simp [AV.pureL,El.av_pure]) (Nat.le_of_ble_eq_true rfl) rfl (g:=[]) ?_⟩
  rw [body_21,c21]
  simp [R] at P'
  have zr:List.replicate (enc e.core).length (AV.int .u8 0)=bs (List.replicate (enc e.core).length 0):=by simp [bs]
  have cp:((enc e.core).length:Int) ≤ 70368744177664:=by omega
  simp [El.av_eq,C',S',q2,q3,P',zr,cp,s_regB,barX,bindS,barOf]
end E10
end
section
open Ab Go TabE Sp
namespace E11
mutual
theorem chk_l:∀ (c:Cr) (d m l l':Int),(chk c d m l).1=(chk c d m l').1 ∧ (chk c d m l).2.1=(chk c d m l').2.1
  | .mk c k n b s,d,m,l,l' => by
    unfold chk
    split
    · exact ⟨rfl,rfl⟩
    split
    · exact ⟨rfl,rfl⟩
    split
    · exact ⟨rfl,rfl⟩
    split
    · exact ⟨rfl,rfl⟩
    · exact chks_l s _ _ _ _
theorem chks_l:∀ (s:List Cr) (d m l l':Int),(chks s d m l).1=(chks s d m l').1 ∧ (chks s d m l).2.1=(chks s d m l').2.1
  | [],d,m,l,l' => ⟨rfl,rfl⟩
  | x :: r,d,m,l,l' => by
    have a:=chk_l x d m l l'
    unfold chks
    rw [a.1]
    split
    · exact ⟨a.1,a.2⟩
    · rw [a.2]; exact chks_l r _ _ _ _
end
def rc (c:Cr) (d m:Int):Int × Int:=((chk c d m 0).1,if (chk c d m 0).1=0 then (chk c d m 0).2.1 else 0)
def rcs (s:List Cr) (d m:Int):Int × Int:=((chks s d m 0).1,if (chks s d m 0).1=0 then (chks s d m 0).2.1 else 0)
def b39:Code:=lp c39 0
abbrev S39 (e:El) (d:Int) (i:Nat) (n:Int):St:=⟨[(1,.int .i64 d),(3,.ptr (1,3,0) 0),(9,.int .i64 n),(10,.int .i64 (i:Int))],[((1,3,0),bx (ec e))]⟩
theorem go39 (q k1:Nat) (e x:El) (d n n':Int) (i:Nat) (hx:e.s[i]? = some x) (le:e.s.length ≤ 9223372036854775807) (d0:0 ≤ d) (d1:d < 1000) (B:∀ h,aCall E q 0 39 [x.av,.int .i64 (d + 1),.int .i64 n] h=some (.ret (.tup [.int .i64 0,.int .i64 n']),h)) :
    rnd fn39 b39 q k1 (S39 e d i n)=some (.normal,S39 e d (i + 1) n'):=by
  have hi:i < e.s.length:=(List.getElem?_eq_some_iff.1 hx).1
  have ix:=El.at_ e.fs e.cs e.s i x hx
  have w:=w64' ((i:Int) + 1) (by omega) (by omega)
  have w2:=w64' (d + 1) (by omega) (by omega)
  rw [El.av_eq] at B
  simp [b39,lp,lps,c39,-indexAddrA,ix,w,w2,hi,B]
theorem bad39 (q k1:Nat) (e x:El) (d n r n':Int) (i:Nat) (hr:r ≠ 0) (hx:e.s[i]? = some x) (le:e.s.length ≤ 9223372036854775807) (d0:0 ≤ d) (d1:d < 1000) (B:∀ h,aCall E q 0 39 [x.av,.int .i64 (d + 1),.int .i64 n] h=some (.ret (.tup [.int .i64 r,.int .i64 n']),h)) :
    rnd fn39 b39 q k1 (S39 e d i n)=some (.ret,⟨[(6,.int .i64 r),(7,.int .i64 0)],[]⟩):=by
  have hi:i < e.s.length:=(List.getElem?_eq_some_iff.1 hx).1
  have ix:=El.at_ e.fs e.cs e.s i x hx
  have w2:=w64' (d + 1) (by omega) (by omega)
  rw [El.av_eq] at B
  simp [b39,lp,lps,c39,-indexAddrA,ix,w2,hi,B,hr]
theorem last39 (q k1:Nat) (e:El) (d n:Int):rnd fn39 b39 q k1 (S39 e d e.s.length n)=some (.exit 0,⟨[(1,.int .i64 d),(3,.ptr (1,3,0) 0),(9,.int .i64 n),(10,.int .i64 (e.s.length:Int)),(50,.bool false)],[((1,3,0),bx (ec e))]⟩):=by
  simp [b39,lp,lps,c39]
theorem check:∀ e:El,e.ok → ∃ N,∀ k,N ≤ k → ∀ d m:Int,0 ≤ d → d ≤ 17 → 0 ≤ m → m ≤ 8192 → ∀ h,aCall E k 0 39 [e.av,.int .i64 d,.int .i64 m] h=some (.ret (.tup [.int .i64 (rc e.core d m).1,.int .i64 (rc e.core d m).2]),h):=by
  refine El.ind fun e ih he => ?_
  obtain ⟨N,hN⟩:=unif (P:=fun (x:El) (n:Nat) => ∀ k,n ≤ k → ∀ d m:Int,0 ≤ d → d ≤ 17 → 0 ≤ m → m ≤ 8192 → ∀ h,aCall E k 0 39 [x.av,.int .i64 d,.int .i64 m] h=some (.ret (.tup [.int .i64 (rc x.core d m).1,.int .i64 (rc x.core d m).2]),h))
    (fun x n m h hm k hk => h k (by omega)) e.s (fun x hx => ih x hx (he.sub x hx))
  refine ⟨N + e.s.length + 31,fun k hk d m d0 d1 m0 m1 h => ?_⟩
  obtain ⟨K,rfl⟩:∃ K,k=K + 1:=⟨k - 1,by omega⟩
  refine con_of E_fn39 (by simp [AV.pureL,El.av_pure,AV.pure]) (Nat.le_of_ble_eq_true rfl) rfl rfl (g:=[]) (K:=K) ?_ rfl (K + 1) (Nat.le_refl _) 0 h
  rw [body_39,c39]
  have t:=E2.ref_ok e.c e.k e.n
  have t':=t K (by omega) 0
  have lb:=bs_length e.b
  have ls:=El.avs_len e.s
  obtain ⟨r,hr⟩:∃ r,rc e.core d m=r:=⟨_,rfl⟩
  have hr0:=hr
  unfold rc at hr
  rw [chk_eq] at hr
  rw [hr0]
  by_cases h1:tagE e.c e.k e.n=0
  case neg =>
    rw [if_pos h1,if_neg h1] at hr
    subst hr
    simp [El.av_eq,t',h1]
  rw [if_neg (by simp [h1])] at hr
  rw [h1] at t'
  by_cases h2:(e.k=true ∧ e.b ≠ []) ∨ (e.k=false ∧ e.s ≠ [])
  · rw [if_pos h2,if_neg (by simp)] at hr
    subst hr
    rcases h2 with ⟨hk2,hb⟩ | ⟨hk2,hs⟩ <;> rw [hk2] at t'
    · have p:(0:Int) < (e.b.length:Int):=by have:=List.length_pos_iff.2 hb; omega
      have p2:0 < e.b.length:=List.length_pos_iff.2 hb
      simp [El.av_eq,t',hk2,hb,p,p2]
    · have p:(0:Int) < (e.s.length:Int):=by have:=List.length_pos_iff.2 hs; omega
      have p2:0 < e.s.length:=List.length_pos_iff.2 hs
      simp [El.av_eq,t',hk2,hs,p,p2]
  rw [if_neg h2] at hr
  have q:(e.k=true ∧ e.b=[]) ∨ (e.k=false ∧ e.s=[]):=by
    cases hk3:e.k
    · exact .inr ⟨rfl,Classical.byContradiction fun c => h2 (.inr ⟨hk3,c⟩)⟩
    · exact .inl ⟨rfl,Classical.byContradiction fun c => h2 (.inl ⟨hk3,c⟩)⟩
  by_cases h3:16 < d
  · rw [if_pos h3,if_neg (by simp)] at hr
    subst hr
    rcases q with ⟨hk2,hb⟩ | ⟨hk2,hs⟩ <;> rw [hk2] at t'
    · simp [El.av_eq,t',hk2,hb,h3]
    · simp [El.av_eq,t',hk2,hs,El.avs,h3]
  rw [if_neg h3] at hr
  by_cases h4:m=8192
  · rw [if_pos h4,if_neg (by simp)] at hr
    subst hr h4
    rcases q with ⟨hk2,hb⟩ | ⟨hk2,hs⟩ <;> rw [hk2] at t'
    · simp [El.av_eq,t',hk2,hb,h3]
    · simp [El.av_eq,t',hk2,hs,El.avs,h3]
  rw [if_neg h4] at hr
  have h5:¬ (8192 ≤ m):=by omega
  have w:=w64' (m + 1) (by omega) (by omega)
  have L:=loopL (f:=aCode E (aCall E K) (dcall (aRun E K)) K 1 fn39 b39) (cl:=cleanS 1 ((firstReg b39).bind fn39.head)) e.s (S39 e d)
    (fun n x => if (rc x.core (d + 1) n).1=0 then .inl (rc x.core (d + 1) n).2 else .inr (.ret,⟨[(6,.int .i64 (rc x.core (d + 1) n).1),(7,.int .i64 0)],[]⟩))
    (fun n => (.exit 0,⟨[(1,.int .i64 d),(3,.ptr (1,3,0) 0),(9,.int .i64 n),(10,.int .i64 (e.s.length:Int)),(50,.bool false)],[((1,3,0),bx (ec e))]⟩))
    (fun n => 0 ≤ n ∧ n ≤ 8192)
    (fun i x n hx hn => by
      have B:=hN x (List.mem_of_getElem? hx) K (by omega) (d + 1) n (by omega) (by omega) hn.1 hn.2
      refine ⟨fun c' e1 => ?_,fun r e1 => ?_⟩
      · split at e1
        · rename_i e2
          cases e1
          rw [e2] at B
          refine ⟨go39 K K e x d n _ i hx he.sl d0 (by omega) B,?_⟩
          unfold rc at e2 ⊢
          simp only at e2 ⊢
          rw [if_pos e2]
          obtain ⟨a,b,_,_⟩:=E4.chk_bd x.core (d + 1) n 0 hn.1 hn.2 (by omega) (by omega)
          exact ⟨a,b⟩
        · cases e1
      · split at e1
        · cases e1
        · rename_i e2
          cases e1
          exact ⟨bad39 K K e x d n _ _ i e2 hx he.sl d0 (by omega) B,by simp⟩)
    (fun n hn => ⟨last39 K K e d n,by simp⟩) e.s 0 (m + 1) K rfl (by simp) ⟨by omega,by omega⟩ (by omega)
  have run:∀ (l:List El) (n:Int),runL (fun (n:Int) (x:El) => if (rc x.core (d + 1) n).1=0 then .inl (rc x.core (d + 1) n).2 else .inr (AExit.ret,(⟨[(6,.int .i64 (rc x.core (d + 1) n).1),(7,.int .i64 0)],[]⟩:St)))
      (fun n => (AExit.exit 0,(⟨[(1,.int .i64 d),(3,.ptr (1,3,0) 0),(9,.int .i64 n),(10,.int .i64 (e.s.length:Int)),(50,.bool false)],[((1,3,0),bx (ec e))]⟩:St))) l n =
      if (rcs (El.cores l) (d + 1) n).1=0 then (AExit.exit 0,⟨[(1,.int .i64 d),(3,.ptr (1,3,0) 0),(9,.int .i64 (rcs (El.cores l) (d + 1) n).2),(10,.int .i64 (e.s.length:Int)),(50,.bool false)],[((1,3,0),bx (ec e))]⟩)
      else (AExit.ret,⟨[(6,.int .i64 (rcs (El.cores l) (d + 1) n).1),(7,.int .i64 0)],[]⟩):=by
    intro l
    induction l with
    | nil => intro n; simp [runL,rcs,El.cores,chks]
    | cons x l ih =>
      intro n
      unfold runL
      have a:=chks_l (El.cores l) (d + 1) (chk x.core (d + 1) n 0).2.1 (chk x.core (d + 1) n 0).2.2 0
      by_cases z:(rc x.core (d + 1) n).1=0
      · have z':(chk x.core (d + 1) n 0).1=0:=z
        rw [if_pos z]
        simp only
        rw [ih]
        have e1:rcs (El.cores (x :: l)) (d + 1) n=rcs (El.cores l) (d + 1) (rc x.core (d + 1) n).2:=by
          unfold rcs rc
          rw [El.cores,chks]
          simp only [z',ne_eq,not_true_eq_false,if_false,if_true,a.1,a.2]
        rw [e1]
      · have z':(chk x.core (d + 1) n 0).1 ≠ 0:=z
        rw [if_neg z]
        have e1:(rcs (El.cores (x :: l)) (d + 1) n).1=(rc x.core (d + 1) n).1:=by
          unfold rcs rc
          rw [El.cores,chks,if_pos z']
        rw [e1,if_neg z]
  rw [run] at L
  have er:r=rcs (El.cores e.s) (d + 1) (m + 1):=by
    rw [← hr]
    unfold rcs
    have a:=chks_l (El.cores e.s) (d + 1) (m + 1) (max 0 d) 0
    rw [a.1,a.2]
  rw [← er] at L
  simp [b39,lp,lps,c39,firstReg,S39,ec] at L
  have r2:r.1 ≠ 0 → r.2=0:=by
    intro z
    rw [er] at z ⊢
    unfold rcs at z ⊢
    exact if_neg z
  rcases q with ⟨hk2,hb⟩ | ⟨hk2,hs⟩ <;> rw [hk2] at t'
  · by_cases z:r.1=0
    · simp [z,hk2,hb,bs_nil] at L
      simp [El.av_eq,-s_round,t',hk2,hb,h3,h5,w,L,z]
    · simp [z,hk2,hb,bs_nil] at L
      simp [El.av_eq,-s_round,t',hk2,hb,h3,h5,w,L,z,r2 z]
  · by_cases z:r.1=0
    · simp [z,hk2,hs,El.avs] at L
      simp [El.av_eq,-s_round,t',hk2,hs,El.avs,h3,h5,w,L,z]
    · simp [z,hk2,hs,El.avs] at L
      simp [El.av_eq,-s_round,t',hk2,hs,El.avs,h3,h5,w,L,z,r2 z]
end E11
end
section
open Ab Go TabE Sp
namespace Sp
mutual
def dep:Cr → Int
  | .mk _ _ _ _ s => deps s + 1
def deps:List Cr → Int
  | [] => 0
  | x :: r => max (dep x) (deps r)
end
mutual
def many:Cr → Int → Int
  | .mk _ _ _ _ s,m => if m ≤ 0 then 1 else manys s m 1
def manys:List Cr → Int → Int → Int
  | [],m,n => n
  | x :: r,m,n => if n ≤ m then manys r m (n + many x (m - n)) else n
end
mutual
theorem many_le:∀ (c:Cr) (m:Int),1 ≤ many c m ∧ (many c m ≤ m + 1 ∨ many c m=1)
  | .mk _ _ _ _ s,m => by
    unfold many
    by_cases h:m ≤ 0
    · rw [if_pos h]; omega
    · rw [if_neg h]; have:=manys_le s m 1 (by omega) (by omega); omega
theorem manys_le:∀ (s:List Cr) (m n:Int),1 ≤ n → n ≤ m + 1 → 1 ≤ manys s m n ∧ manys s m n ≤ m + 1
  | [],m,n,h0,h => by unfold manys; omega
  | x :: r,m,n,h0,h => by
    unfold manys
    by_cases q:n ≤ m
    · rw [if_pos q]
      have:=many_le x (m - n)
      exact manys_le r m _ (by omega) (by omega)
    · rw [if_neg q]; omega
end
theorem dep_eq (e:El):dep e.core=deps (El.cores e.s) + 1:=by rw [El.core_eq,dep]
theorem many_eq (e:El) (m:Int):many e.core m=if m ≤ 0 then 1 else manys (El.cores e.s) m 1:=by rw [El.core_eq,many]
mutual
theorem dep_pos:∀ c:Cr,1 ≤ dep c
  | .mk _ _ _ _ s => by unfold dep; have:=deps_pos s; omega
theorem deps_pos:∀ s:List Cr,0 ≤ deps s
  | [] => by unfold deps; omega
  | x :: r => by unfold deps; have:=deps_pos r; omega
end
end Sp
namespace E12
theorem deps_mem {x:El}:∀ {l:List El},x ∈ l → dep x.core ≤ deps (El.cores l)
  | y :: l,h => by
    rw [El.cores,deps]
    rcases List.mem_cons.1 h with rfl | h
    · omega
    · have:=deps_mem h; omega
def b40:Code:=lp c40 0
abbrev S40 (e:El) (i:Nat) (n:Int):St:=⟨[(1,.ptr (1,1,0) 0),(3,.int .i64 n),(4,.int .i64 (i:Int))],[((1,1,0),bx (ec e))]⟩
theorem go40 (q k1:Nat) (e x:El) (n r:Int) (i:Nat) (hx:e.s[i]? = some x) (le:e.s.length ≤ 9223372036854775807) (B:∀ h,aCall E q 0 40 [x.av] h=some (.ret (.int .i64 r),h)) :
    rnd fn40 b40 q k1 (S40 e i n)=some (.normal,S40 e (i + 1) (max n r)):=by
  have hi:i < e.s.length:=(List.getElem?_eq_some_iff.1 hx).1
  have ix:=El.at_ e.fs e.cs e.s i x hx
  have w:=w64' ((i:Int) + 1) (by omega) (by omega)
  have mx:(if n < r then r else n)=max n r:=by rw [Int.max_def]; split <;> split <;> omega
  rw [El.av_eq] at B
  simp [b40,lp,lps,c40,-indexAddrA,ix,w,hi,B,mx]
theorem last40 (q k1:Nat) (e:El) (n:Int):rnd fn40 b40 q k1 (S40 e e.s.length n)=some (.exit 0,⟨[(1,.ptr (1,1,0) 0),(3,.int .i64 n),(4,.int .i64 (e.s.length:Int)),(9,.bool false)],[((1,1,0),bx (ec e))]⟩):=by
  simp [b40,lp,lps,c40]
theorem depth:∀ e:El,e.ok → dep e.core ≤ 100000 → ∃ N,Con E N 40 [e.av] (.int .i64 (dep e.core)):=by
  refine El.ind fun e ih he hd => ?_
  rw [dep_eq] at hd
  obtain ⟨N,hN⟩:=unif (P:=fun (x:El) (n:Nat) => Con E n 40 [x.av] (.int .i64 (dep x.core))) (fun x n m h hm => h.mono hm) e.s (fun x hx => ih x hx (he.sub x hx) (by have:=deps_mem hx; omega))
  obtain ⟨K,hK⟩:∃ K,N + e.s.length + 30=K:=⟨_,rfl⟩
  refine ⟨K + 1,con_of E_fn40 (by simp [AV.pureL,El.av_pure]) (Nat.le_of_ble_eq_true rfl) rfl rfl (g:=[]) ?_⟩
  rw [body_40,c40]
  have L:=loopL (f:=aCode E (aCall E K) (dcall (aRun E K)) K 1 fn40 b40) (cl:=cleanS 1 ((firstReg b40).bind fn40.head)) e.s (S40 e) (fun n x => .inl (max n (dep x.core)))
    (fun n => (.exit 0,⟨[(1,.ptr (1,1,0) 0),(3,.int .i64 n),(4,.int .i64 (e.s.length:Int)),(9,.bool false)],[((1,1,0),bx (ec e))]⟩)) (fun _ => True)
    (fun i x n hx _ => ⟨fun c' e1 => by cases e1; exact ⟨go40 K K e x n _ i hx he.sl (fun h => hN x (List.mem_of_getElem? hx) K (by omega) 0 h),trivial⟩,fun r e1 => by cases e1⟩)
    (fun n _ => ⟨last40 K K e n,by simp⟩) e.s 0 0 K rfl (by simp) trivial (by omega)
  have run:∀ (l:List El) (n:Int),0 ≤ n → runL (fun (n:Int) (x:El) => (.inl (max n (dep x.core)):Int ⊕ (AExit × St))) (fun n => (AExit.exit 0,(⟨[(1,.ptr (1,1,0) 0),(3,.int .i64 n),(4,.int .i64 (e.s.length:Int)),(9,.bool false)],[((1,1,0),bx (ec e))]⟩:St))) l n =
      (AExit.exit 0,⟨[(1,.ptr (1,1,0) 0),(3,.int .i64 (max n (deps (El.cores l)))),(4,.int .i64 (e.s.length:Int)),(9,.bool false)],[((1,1,0),bx (ec e))]⟩):=by
    intro l
    induction l with
    | nil => intro n hn; have:max n 0=n:=by omega
             simp [runL,El.cores,deps,this]
    | cons x l ih =>
      intro n hn
      unfold runL
      simp only
      rw [ih _ (by omega)]
      have:max (max n (dep x.core)) (deps (El.cores l))=max n (deps (El.cores (x :: l))):=by rw [El.cores,deps]; omega
      rw [this]
  rw [run _ _ (by omega)] at L
  have d0:=deps_pos (El.cores e.s)
  have e0:max 0 (deps (El.cores e.s))=deps (El.cores e.s):=by omega
  rw [e0] at L
  have w:=w64' (deps (El.cores e.s) + 1) (by omega) (by omega)
  simp [b40,lp,lps,c40,firstReg,S40,ec] at L
  simp [El.av_eq,-s_round,L,w,dep_eq]
def b26:Code:=lp c26 0
abbrev S26 (e:El) (m:Int) (i:Nat) (n:Int):St:=⟨[(1,.int .i64 m),(2,.ptr (1,2,0) 0),(5,.int .i64 n),(6,.int .i64 (i:Int))],[((1,2,0),bx (ec e))]⟩
theorem go26 (q k1:Nat) (e x:El) (m n r:Int) (i:Nat) (hx:e.s[i]? = some x) (le:e.s.length ≤ 9223372036854775807) (n0:0 ≤ n) (nm:n ≤ m) (m1:m ≤ 100000) (r0:0 ≤ r) (r1:r ≤ 200000) (B:∀ h,aCall E q 0 26 [x.av,.int .i64 (m - n)] h=some (.ret (.int .i64 r),h)) :
    rnd fn26 b26 q k1 (S26 e m i n)=some (.normal,S26 e m (i + 1) (n + r)):=by
  have hi:i < e.s.length:=(List.getElem?_eq_some_iff.1 hx).1
  have ix:=El.at_ e.fs e.cs e.s i x hx
  have w:=w64' ((i:Int) + 1) (by omega) (by omega)
  have w2:=w64' (m - n) (by omega) (by omega)
  have w3:=w64' (n + r) (by omega) (by omega)
  rw [El.av_eq] at B
  simp [b26,lp,lps,c26,-indexAddrA,ix,w,w2,w3,hi,B,nm]
theorem out26 (q k1:Nat) (e:El) (m n:Int) (i:Nat) (hi:i < e.s.length) (nm:¬ n ≤ m):rnd fn26 b26 q k1 (S26 e m i n)=some (.exit 0,⟨[(1,.int .i64 m),(2,.ptr (1,2,0) 0),(5,.int .i64 n),(6,.int .i64 (i:Int)),(18,.bool false)],[((1,2,0),bx (ec e))]⟩):=by
  simp [b26,lp,lps,c26,hi,nm]
theorem last26 (q k1:Nat) (e:El) (m n:Int):rnd fn26 b26 q k1 (S26 e m e.s.length n)=some (.exit 0,⟨[(1,.int .i64 m),(2,.ptr (1,2,0) 0),(5,.int .i64 n),(6,.int .i64 (e.s.length:Int)),(18,.bool false)],[((1,2,0),bx (ec e))]⟩):=by
  simp [b26,lp,lps,c26]
end E12
end
end
