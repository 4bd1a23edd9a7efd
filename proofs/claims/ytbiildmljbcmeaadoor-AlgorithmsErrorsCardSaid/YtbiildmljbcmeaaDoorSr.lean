/- Own work, no conditions. -/
import Derived.Test.YtbiildmljbcmeaaDoorTabEe
import Derived.Test.YtbiildmljbcmeaaDoorB40e
import Derived.KernelRfl
import Derived.Test.YtbiildmljbcmeaaDoorB32
import Derived.Test.YtbiildmljbcmeaaDoorSq
set_option maxRecDepth 20000
set_option linter.unusedSimpArgs false
set_option linter.unusedVariables false
set_option maxHeartbeats 16000000
section
open Ab Go TabE
attribute [local simp ↓] s_seq s_reg s_regd s_cond s_block s_cons s_consG
attribute [local simp] s_nil s_loop s_round s_lpn s_lpe s_lpr firstReg s_gt s_gf s_wb s_wu s_val s_valN s_skip s_calls s_callP s_cax lookR flatR pureKs s_ret s_rgx s_sqn s_sqr s_sqe s_cdb s_bkn s_bkr s_bke s_exit s_ret' s_skip' s_finr s_finn s_fin1 s_fix s_clean s_gc0 o_tmp o_int o_bool o_nil o_str o_fn o_nil' l_hit l_miss l_nil ol_nil ol_cons ol_some x_move x_assign x_pick pk_t pk_f x_bin bn_s x_un x_extract x_callF cl_no x_callB x_callBF frzV x_conv cvx convA frame0 binA intOp resL resA results1 sealA sealLW AV.pure AV.pureL keepT x_alloc x_box bxx x_build bdx x_buildSlice bsx x_buildSliceF bsf x_load ldx x_store stx x_slice slx x_fieldAddr x_field x_index ixx x_indexAddr iax x_makeSlice msx x_nilCheck newK genOf setK lookK fillA writeL writeC readC conts TyI.mk1 sliceA boundsA boundsB fitsA numA indexAddrA fieldAddrA partA fieldA indexA appendA copyA builtinA AV.cells AV.scal chunk gcH reach keysT keepK inKs AV.keys AV.keysL Ty.isAgg eq1 eqL convA.go ltI w_u8 w_u32 w_u64 w_i64 w_fdiv w_tdiv w_tmod IntKind.bits unA
section
open Ab Go TabE
namespace P1
theorem clip (f:Bool) (xs:List AV) (c:Option Nat) (hp:AV.pureL xs=true):Con E 5 131 [.sl f xs c] (.sl f xs (some xs.length)):=by
  refine .of (g:=[]) (by simp [AV.pureL,AV.pure,hp]) ?_
  rw [aCall_fn rfl (E_fn131) (by simp [AV.pureL,AV.pure,hp]) (Nat.le_of_ble_eq_true rfl) rfl rfl,body_131,c131]
  simp [hp]
theorem put_neg (n:Int) (h:n < 0):Con E 10 160 [.int .i64 n] (.tup [.sl true [] (some 0),.int .i64 1]):=by
  refine .of (g:=[]) rfl ?_
  rw [aCall_fn rfl (E_fn160) rfl (Nat.le_of_ble_eq_true rfl) rfl rfl,body_160,c160]
  have f0:n < 0:=by omega
  simp [f0]
theorem put_big (n:Int) (h:16777215 < n):Con E 10 160 [.int .i64 n] (.tup [.sl true [] (some 0),.int .i64 3]):=by
  refine .of (g:=[]) rfl ?_
  rw [aCall_fn rfl (E_fn160) rfl (Nat.le_of_ble_eq_true rfl) rfl rfl,body_160,c160]
  have f0:¬ n < 0:=by omega
  have f1:n > 16777215:=by omega
  simp [f0,f1]
theorem put_1 (n:Int) (h0:0 ≤ n) (h:n ≤ 127):Con E 10 160 [.int .i64 n] (.tup [.sl false [.int .u8 n] (some 1),.int .i64 0]):=by
  refine .of (g:=[]) rfl ?_
  rw [aCall_fn rfl (E_fn160) rfl (Nat.le_of_ble_eq_true rfl) rfl rfl,body_160,c160]
  have f0:¬ n < 0:=by omega
  have f1:¬ n > 16777215:=by omega
  have f2:n ≤ 127:=by omega
  simp [f0,f1,f2]
  omega
theorem put_2 (n:Int) (h0:128 ≤ n) (h:n ≤ 255):Con E 10 160 [.int .i64 n] (.tup [.sl false [.int .u8 129,.int .u8 n] (some 2),.int .i64 0]):=by
  refine .of (g:=[]) rfl ?_
  rw [aCall_fn rfl (E_fn160) rfl (Nat.le_of_ble_eq_true rfl) rfl rfl,body_160,c160]
  have f0:¬ n < 0:=by omega
  have f1:¬ n > 16777215:=by omega
  have f2:¬ n ≤ 127:=by omega
  have f3:¬ n > 65535:=by omega
  have f4:¬ n > 255:=by omega
  simp [f0,f1,f2,f3,f4,clip]
  omega
theorem put_3 (n:Int) (h0:256 ≤ n) (h:n ≤ 65535):Con E 10 160 [.int .i64 n] (.tup [.sl false [.int .u8 130,.int .u8 (n / 256),.int .u8 (n % 256)] (some 3),.int .i64 0]):=by
  refine .of (g:=[]) rfl ?_
  rw [aCall_fn rfl (E_fn160) rfl (Nat.le_of_ble_eq_true rfl) rfl rfl,body_160,c160]
  have f0:¬ n < 0:=by omega
  have f1:¬ n > 16777215:=by omega
  have f2:¬ n ≤ 127:=by omega
  have f3:¬ n > 65535:=by omega
  have f4:n > 255:=by omega
  simp [f0,f1,f2,f3,f4,clip]
  omega
theorem put_4 (n:Int) (h0:65536 ≤ n) (h:n ≤ 16777215):Con E 10 160 [.int .i64 n] (.tup [.sl false [.int .u8 131,.int .u8 (n / 65536),.int .u8 (n / 256 % 256),.int .u8 (n % 256)] (some 4),.int .i64 0]):=by
  refine .of (g:=[]) rfl ?_
  rw [aCall_fn rfl (E_fn160) rfl (Nat.le_of_ble_eq_true rfl) rfl rfl,body_160,c160]
  have f0:¬ n < 0:=by omega
  have f1:¬ n > 16777215:=by omega
  have f2:¬ n ≤ 127:=by omega
  have f3:n > 65535:=by omega
  simp [f0,f1,f2,f3,clip]
  omega
end P1
end
section
open Ab Go TabE P1
namespace P2
theorem size_1 (n:Int) (h0:0 ≤ n) (h1:n ≤ 127):Con E 20 168 [.int .i64 n] (.int .i64 1):=by
  refine .of (g:=[]) rfl ?_
  rw [aCall_fn rfl (E_fn168) rfl (Nat.le_of_ble_eq_true rfl) rfl rfl,body_168,c168]
  simp [put_1 n h0 h1]
theorem size_2 (n:Int) (h0:128 ≤ n) (h1:n ≤ 255):Con E 20 168 [.int .i64 n] (.int .i64 2):=by
  refine .of (g:=[]) rfl ?_
  rw [aCall_fn rfl (E_fn168) rfl (Nat.le_of_ble_eq_true rfl) rfl rfl,body_168,c168]
  simp [put_2 n h0 h1]
theorem size_3 (n:Int) (h0:256 ≤ n) (h1:n ≤ 65535):Con E 20 168 [.int .i64 n] (.int .i64 3):=by
  refine .of (g:=[]) rfl ?_
  rw [aCall_fn rfl (E_fn168) rfl (Nat.le_of_ble_eq_true rfl) rfl rfl,body_168,c168]
  simp [put_3 n h0 h1]
theorem size_4 (n:Int) (h0:65536 ≤ n) (h1:n ≤ 16777215):Con E 20 168 [.int .i64 n] (.int .i64 4):=by
  refine .of (g:=[]) rfl ?_
  rw [aCall_fn rfl (E_fn168) rfl (Nat.le_of_ble_eq_true rfl) rfl rfl,body_168,c168]
  simp [put_4 n h0 h1]
theorem size_neg (n:Int) (h:n < 0):Con E 20 168 [.int .i64 n] (.int .i64 0):=by
  refine .of (g:=[]) rfl ?_
  rw [aCall_fn rfl (E_fn168) rfl (Nat.le_of_ble_eq_true rfl) rfl rfl,body_168,c168]
  simp [put_neg n h]
theorem size_big (n:Int) (h:16777215 < n):Con E 20 168 [.int .i64 n] (.int .i64 0):=by
  refine .of (g:=[]) rfl ?_
  rw [aCall_fn rfl (E_fn168) rfl (Nat.le_of_ble_eq_true rfl) rfl rfl,body_168,c168]
  simp [put_big n h]
end P2
end
section
open Ab Go TabE P1 P2 P2
namespace P5
def sz (n:Int):Int:=if n < 0 then 0 else if n ≤ 127 then 1 else if n ≤ 255 then 2 else if n ≤ 65535 then 3 else if n ≤ 16777215 then 4 else 0
theorem size (n:Int):Con E 20 168 [.int .i64 n] (.int .i64 (sz n)):=by
  unfold sz
  split
  · exact size_neg n ‹_›
  · split
    · exact size_1 n (by omega) ‹_›
    · split
      · exact size_2 n (by omega) ‹_›
      · split
        · exact size_3 n (by omega) ‹_›
        · split
          · exact size_4 n (by omega) ‹_›
          · exact size_big n (by omega)
theorem sz_pos (n:Int) (h0:0 ≤ n) (h:n < 16777216):1 ≤ sz n ∧ sz n ≤ 4:=by unfold sz; repeat' split <;> omega
theorem sz_mono (a b:Int) (h:a ≤ b) (h0:0 ≤ a) (hb:b < 16777216):sz a ≤ sz b:=by unfold sz; repeat' split <;> omega
theorem sz_neg (n:Int) (h:n < 0):sz n=0:=by unfold sz; simp [h]
theorem total_lo (tag n:Int) (h:tag < 1):Con E 30 157 [.int .i64 tag,.int .i64 n] (.int .i64 0):=by
  refine .of (g:=[]) rfl ?_
  rw [aCall_fn rfl (E_fn157) rfl (Nat.le_of_ble_eq_true rfl) rfl rfl,body_157,c157]
  have f0:tag < 1:=by omega
  simp [f0]
theorem total_hi (tag n:Int) (h:5 < tag):Con E 30 157 [.int .i64 tag,.int .i64 n] (.int .i64 0):=by
  refine .of (g:=[]) rfl ?_
  rw [aCall_fn rfl (E_fn157) rfl (Nat.le_of_ble_eq_true rfl) rfl rfl,body_157,c157]
  have f0:¬ tag < 1:=by omega
  have f1:5 < tag:=by omega
  simp [f0,f1]
theorem total_in (tag n s:Int) (h0:1 ≤ tag) (h1:tag ≤ 5) (hc:Con E 20 168 [.int .i64 n] (.int .i64 s)) (hs:1 ≤ s) (hs4:s ≤ 4) (hn:0 ≤ n) (hn1:n < 16777216):Con E 30 157 [.int .i64 tag,.int .i64 n] (.int .i64 (tag + s + n)):=by
  refine .of (g:=[]) rfl ?_
  rw [aCall_fn rfl (E_fn157) rfl (Nat.le_of_ble_eq_true rfl) rfl rfl,body_157,c157]
  have f0:¬ tag < 1:=by omega
  have f1:¬ 5 < tag:=by omega
  have f2:¬ s=0:=by omega
  have w1:IntKind.i64.wrap (tag + s)=tag + s:=w_i64 _ (by omega) (by omega)
  have w2:IntKind.i64.wrap (tag + s + n)=tag + s + n:=w_i64 _ (by omega) (by omega)
  simp [f0,f1,f2,hc,w1,w2]
theorem total_no (tag n:Int) (h0:1 ≤ tag) (h1:tag ≤ 5) (hc:Con E 20 168 [.int .i64 n] (.int .i64 0)):Con E 30 157 [.int .i64 tag,.int .i64 n] (.int .i64 0):=by
  refine .of (g:=[]) rfl ?_
  rw [aCall_fn rfl (E_fn157) rfl (Nat.le_of_ble_eq_true rfl) rfl rfl,body_157,c157]
  have f0:¬ tag < 1:=by omega
  have f1:¬ 5 < tag:=by omega
  simp [f0,f1,hc]
end P5
end
section
open Ab Go TabE P1 P2 P2 P5
namespace P7
theorem get_A (f:Bool) (c:Option Nat) :Con E 10 154 [.sl f (bs ([])) c] (.tup [.int .i64 0,.int .i64 0,.int .i64 7]):=by
  refine .of (g:=[]) (by simp [AV.pureL,AV.pure,bs_pure]) ?_
  rw [aCall_fn rfl (E_fn154) (by simp [AV.pureL,AV.pure,bs_pure]) (Nat.le_of_ble_eq_true rfl) rfl rfl,body_154,c154]
  simp [bs_nil,bs_cons,bs_length,bs_pure]
theorem get_B (f:Bool) (c:Option Nat) (x:Int) (r:List Int) (x0:0 ≤ x) (h:x ≤ 127):Con E 10 154 [.sl f (bs (x :: r)) c] (.tup [.int .i64 x,.int .i64 1,.int .i64 0]):=by
  refine .of (g:=[]) (by simp [AV.pureL,AV.pure,bs_pure]) ?_
  rw [aCall_fn rfl (E_fn154) (by simp [AV.pureL,AV.pure,bs_pure]) (Nat.le_of_ble_eq_true rfl) rfl rfl,body_154,c154]
  have f0:x < 128:=by omega
  have f1:¬ ((r.length:Int) + 1=0):=by omega
  have f2:(0:Int) < (r.length:Int) + 1:=by omega
  have w1:IntKind.i64.wrap x=x:=w_i64 _ (by omega) (by omega)
  simp [bs_nil,bs_cons,bs_length,bs_pure,f0,f1,f2,h,w1]
theorem get_C0 (f:Bool) (c:Option Nat) (r:List Int):Con E 10 154 [.sl f (bs (128 :: r)) c] (.tup [.int .i64 0,.int .i64 0,.int .i64 10]):=by
  refine .of (g:=[]) (by simp [AV.pureL,AV.pure,bs_pure]) ?_
  rw [aCall_fn rfl (E_fn154) (by simp [AV.pureL,AV.pure,bs_pure]) (Nat.le_of_ble_eq_true rfl) rfl rfl,body_154,c154]
  have f0:¬ ((r.length:Int) + 1=0):=by omega
  have f1:(0:Int) < (r.length:Int) + 1:=by omega
  simp [bs_nil,bs_cons,bs_length,bs_pure,f0,f1]
theorem get_C1 (f:Bool) (c:Option Nat) (x:Int) (r:List Int) (x0:132 ≤ x) (h:x ≤ 255):Con E 10 154 [.sl f (bs (x :: r)) c] (.tup [.int .i64 0,.int .i64 0,.int .i64 10]):=by
  refine .of (g:=[]) (by simp [AV.pureL,AV.pure,bs_pure]) ?_
  rw [aCall_fn rfl (E_fn154) (by simp [AV.pureL,AV.pure,bs_pure]) (Nat.le_of_ble_eq_true rfl) rfl rfl,body_154,c154]
  have f0:¬ x < 128:=by omega
  have f1:¬ x ≤ 127:=by omega
  have f2:¬ ((r.length:Int) + 1=0):=by omega
  have f3:(0:Int) < (r.length:Int) + 1:=by omega
  have f4:¬ x - 128=0:=by omega
  have f5:3 < x - 128:=by omega
  have f6:¬ x - 128 < 1:=by omega
  have w1:IntKind.i64.wrap x=x:=w_i64 _ (by omega) (by omega)
  have w2:IntKind.i64.wrap (x - 128)=x - 128:=w_i64 _ (by omega) (by omega)
  have e1:(x - 128 == 0)=false:=by simp; omega
  have e2:¬ x=128:=by omega
  simp [e1,e2,bs_nil,bs_cons,bs_length,bs_pure,f0,f1,f2,f3,f4,f5,f6,w1,w2]
theorem get_D1 (f:Bool) (c:Option Nat) :Con E 10 154 [.sl f (bs ([129])) c] (.tup [.int .i64 0,.int .i64 0,.int .i64 7]):=by
  refine .of (g:=[]) (by simp [AV.pureL,AV.pure,bs_pure]) ?_
  rw [aCall_fn rfl (E_fn154) (by simp [AV.pureL,AV.pure,bs_pure]) (Nat.le_of_ble_eq_true rfl) rfl rfl,body_154,c154]
  simp [bs_nil,bs_cons,bs_length,bs_pure]
theorem get_D2 (f:Bool) (c:Option Nat) :Con E 10 154 [.sl f (bs ([130])) c] (.tup [.int .i64 0,.int .i64 0,.int .i64 7]):=by
  refine .of (g:=[]) (by simp [AV.pureL,AV.pure,bs_pure]) ?_
  rw [aCall_fn rfl (E_fn154) (by simp [AV.pureL,AV.pure,bs_pure]) (Nat.le_of_ble_eq_true rfl) rfl rfl,body_154,c154]
  simp [bs_nil,bs_cons,bs_length,bs_pure]
theorem get_D2a (f:Bool) (c:Option Nat) (y:Int):Con E 10 154 [.sl f (bs ([130,y])) c] (.tup [.int .i64 0,.int .i64 0,.int .i64 7]):=by
  refine .of (g:=[]) (by simp [AV.pureL,AV.pure,bs_pure]) ?_
  rw [aCall_fn rfl (E_fn154) (by simp [AV.pureL,AV.pure,bs_pure]) (Nat.le_of_ble_eq_true rfl) rfl rfl,body_154,c154]
  simp [bs_nil,bs_cons,bs_length,bs_pure]
theorem get_D3 (f:Bool) (c:Option Nat) :Con E 10 154 [.sl f (bs ([131])) c] (.tup [.int .i64 0,.int .i64 0,.int .i64 7]):=by
  refine .of (g:=[]) (by simp [AV.pureL,AV.pure,bs_pure]) ?_
  rw [aCall_fn rfl (E_fn154) (by simp [AV.pureL,AV.pure,bs_pure]) (Nat.le_of_ble_eq_true rfl) rfl rfl,body_154,c154]
  simp [bs_nil,bs_cons,bs_length,bs_pure]
theorem get_D3a (f:Bool) (c:Option Nat) (y:Int):Con E 10 154 [.sl f (bs ([131,y])) c] (.tup [.int .i64 0,.int .i64 0,.int .i64 7]):=by
  refine .of (g:=[]) (by simp [AV.pureL,AV.pure,bs_pure]) ?_
  rw [aCall_fn rfl (E_fn154) (by simp [AV.pureL,AV.pure,bs_pure]) (Nat.le_of_ble_eq_true rfl) rfl rfl,body_154,c154]
  simp [bs_nil,bs_cons,bs_length,bs_pure]
theorem get_D3b (f:Bool) (c:Option Nat) (y z:Int):Con E 10 154 [.sl f (bs ([131,y,z])) c] (.tup [.int .i64 0,.int .i64 0,.int .i64 7]):=by
  refine .of (g:=[]) (by simp [AV.pureL,AV.pure,bs_pure]) ?_
  rw [aCall_fn rfl (E_fn154) (by simp [AV.pureL,AV.pure,bs_pure]) (Nat.le_of_ble_eq_true rfl) rfl rfl,body_154,c154]
  simp [bs_nil,bs_cons,bs_length,bs_pure]
end P7
end
end
section
open Ab Go TabE
attribute [local simp ↓] s_seq s_reg s_regd s_cond s_block s_cons s_consG i_or
attribute [local simp] s_nil s_loop s_round s_lpn s_lpe s_lpr firstReg s_gt s_gf s_wb s_wu s_val s_valN s_skip s_calls s_callP s_cax lookR flatR pureKs s_ret s_rgx s_sqn s_sqr s_sqe s_cdb s_bkn s_bkr s_bke s_exit s_ret' s_skip' s_finr s_finn s_fin1 s_fix s_clean s_gc0 o_tmp o_int o_bool o_nil o_str o_fn o_nil' l_hit l_miss l_nil ol_nil ol_cons ol_some x_move x_assign x_pick pk_t pk_f x_bin bn_s x_un x_extract x_callF cl_no x_callB x_callBF frzV x_conv cvx convA frame0 binA intOp resL resA results1 sealA sealLW AV.pure AV.pureL keepT x_alloc x_box bxx x_build bdx x_buildSlice bsx x_buildSliceF bsf x_load ldx x_store stx x_slice slx x_fieldAddr x_field x_index ixx x_indexAddr iax x_makeSlice msx x_nilCheck newK genOf setK lookK fillA writeL writeC readC conts TyI.mk1 sliceA boundsA boundsB fitsA numA indexAddrA fieldAddrA partA fieldA indexA appendA copyA builtinA AV.cells AV.scal chunk gcH reach keysT keepK inKs AV.keys AV.keysL Ty.isAgg eq1 eqL convA.go ltI w_u8 w_u32 w_u64 w_i64 w_fdiv w_tdiv w_tmod IntKind.bits unA or64_zero
section
open Ab Go TabE P1 P2 P2 P5 P7
namespace P8
theorem get_E1 (f:Bool) (c:Option Nat) (y:Int) (r:List Int) (y0:128 ≤ y) (y1:y < 256):Con E 10 154 [.sl f (bs (129 :: y :: r)) c] (.tup [.int .i64 y,.int .i64 2,.int .i64 0]):=by
  refine .of (g:=[]) (by simp [AV.pureL,AV.pure,bs_pure]) ?_
  rw [aCall_fn rfl (E_fn154) (by simp [AV.pureL,AV.pure,bs_pure]) (Nat.le_of_ble_eq_true rfl) rfl rfl,body_154,c154]
  have f0:¬ ((r.length:Int) + 1 + 1=0):=by omega
  have f1:(0:Int) < (r.length:Int) + 1 + 1:=by omega
  have f2:¬ ((r.length:Int) + 1 + 1 ≤ 1):=by omega
  have f3:¬ ((r.length:Int) + 1 + 1 < 2):=by omega
  have f4:(1:Int) < (r.length:Int) + 1 + 1:=by omega
  have f5:¬ y=0:=by omega
  have f6:¬ y < 128:=by omega
  have f7:¬ y ≤ 127:=by omega
  have w1:IntKind.i64.wrap (y)=y:=w_i64 _ (by omega) (by omega)
  have m1:min (r.length + 1) 1=1:=by omega
  have o2:or64 0 y=y:=by have h:=(or_three 0 0 y (by omega) (by omega) (by omega) (by omega) (by omega) (by omega)).2; simpa using h
  have e1:(y == 0)=false:=by simp; omega
  simp [bs_nil,bs_cons,bs_length,bs_pure,bs_cells,bs_all,f0,f1,f2,f3,f4,f5,f6,f7,w1,m1,o2,e1]
theorem get_F1 (f:Bool) (c:Option Nat) (y:Int) (r:List Int) (y0:0 < y) (y1:y ≤ 127):Con E 10 154 [.sl f (bs (129 :: y :: r)) c] (.tup [.int .i64 0,.int .i64 0,.int .i64 10]):=by
  refine .of (g:=[]) (by simp [AV.pureL,AV.pure,bs_pure]) ?_
  rw [aCall_fn rfl (E_fn154) (by simp [AV.pureL,AV.pure,bs_pure]) (Nat.le_of_ble_eq_true rfl) rfl rfl,body_154,c154]
  have f0:¬ ((r.length:Int) + 1 + 1=0):=by omega
  have f1:(0:Int) < (r.length:Int) + 1 + 1:=by omega
  have f2:¬ ((r.length:Int) + 1 + 1 ≤ 1):=by omega
  have f3:¬ ((r.length:Int) + 1 + 1 < 2):=by omega
  have f4:(1:Int) < (r.length:Int) + 1 + 1:=by omega
  have f5:¬ y=0:=by omega
  have f6:y < 128:=by omega
  have f7:y ≤ 127:=by omega
  have w1:IntKind.i64.wrap (y)=y:=w_i64 _ (by omega) (by omega)
  have m1:min (r.length + 1) 1=1:=by omega
  have o2:or64 0 y=y:=by have h:=(or_three 0 0 y (by omega) (by omega) (by omega) (by omega) (by omega) (by omega)).2; simpa using h
  have e1:(y == 0)=false:=by simp; omega
  simp [bs_nil,bs_cons,bs_length,bs_pure,bs_cells,bs_all,f0,f1,f2,f3,f4,f5,f6,f7,w1,m1,o2,e1]
theorem get_Z1 (f:Bool) (c:Option Nat) (r:List Int):Con E 10 154 [.sl f (bs (129 :: 0 :: r)) c] (.tup [.int .i64 0,.int .i64 0,.int .i64 10]):=by
  refine .of (g:=[]) (by simp [AV.pureL,AV.pure,bs_pure]) ?_
  rw [aCall_fn rfl (E_fn154) (by simp [AV.pureL,AV.pure,bs_pure]) (Nat.le_of_ble_eq_true rfl) rfl rfl,body_154,c154]
  have f0:¬ ((r.length:Int) + 1 + 1=0):=by omega
  have f1:(0:Int) < (r.length:Int) + 1 + 1:=by omega
  have f2:¬ ((r.length:Int) + 1 + 1 ≤ 1):=by omega
  have f3:¬ ((r.length:Int) + 1 + 1 < 2):=by omega
  have f4:(1:Int) < (r.length:Int) + 1 + 1:=by omega
  have m1:min (r.length + 1) 1=1:=by omega
  simp [bs_nil,bs_cons,bs_length,bs_pure,bs_cells,bs_all,f0,f1,f2,f3,f4,m1]
theorem get_E2 (f:Bool) (c:Option Nat) (y z:Int) (r:List Int) (y0:0 < y) (y1:y < 256) (z0:0 ≤ z) (z1:z < 256):Con E 10 154 [.sl f (bs (130 :: y :: z :: r)) c] (.tup [.int .i64 (256 * y + z),.int .i64 3,.int .i64 0]):=by
  refine .of (g:=[]) (by simp [AV.pureL,AV.pure,bs_pure]) ?_
  rw [aCall_fn rfl (E_fn154) (by simp [AV.pureL,AV.pure,bs_pure]) (Nat.le_of_ble_eq_true rfl) rfl rfl,body_154,c154]
  have f0:¬ ((r.length:Int) + 1 + 1 + 1=0):=by omega
  have f1:(0:Int) < (r.length:Int) + 1 + 1 + 1:=by omega
  have f2:¬ ((r.length:Int) + 1 + 1 + 1 ≤ 2):=by omega
  have f3:¬ ((r.length:Int) + 1 + 1 + 1 < 3):=by omega
  have f4:(1:Int) < (r.length:Int) + 1 + 1 + 1:=by omega
  have f5:(2:Int) < (r.length:Int) + 1 + 1 + 1:=by omega
  have f6:¬ y=0:=by omega
  have f7:¬ 256 * y + z < 128:=by omega
  have f8:¬ 256 * y + z ≤ 127:=by omega
  have w1:IntKind.i64.wrap (y)=y:=w_i64 _ (by omega) (by omega)
  have w2:IntKind.i64.wrap (z)=z:=w_i64 _ (by omega) (by omega)
  have w3:IntKind.i64.wrap (y * 256)=y * 256:=w_i64 _ (by omega) (by omega)
  have w4:IntKind.i64.wrap (256 * y)=256 * y:=w_i64 _ (by omega) (by omega)
  have w5:IntKind.i64.wrap (256 * y + z)=256 * y + z:=w_i64 _ (by omega) (by omega)
  have m2:min (r.length + 1 + 1) 2=2:=by omega
  obtain ⟨p1,p2⟩:=or_three 0 y z (by omega) (by omega) (by omega) (by omega) (by omega) (by omega)
  have o1:or64 0 (y * 256)=y * 256:=by simpa using p1
  have o2:or64 (y * 256) z=256 * y + z:=by
    have e:(0:Int) * 65536 + y * 256=y * 256:=by omega
    rw [e] at p2
    omega
  have e1:(y == 0)=false:=by simp; omega
  simp [bs_nil,bs_cons,bs_length,bs_pure,bs_cells,bs_all,f0,f1,f2,f3,f4,f5,f6,f7,f8,w1,w2,w3,w4,w5,m2,o1,o2,e1]
theorem get_Z2 (f:Bool) (c:Option Nat) (z:Int) (r:List Int) (z0:0 ≤ z) (z1:z < 256):Con E 10 154 [.sl f (bs (130 :: 0 :: z :: r)) c] (.tup [.int .i64 0,.int .i64 0,.int .i64 10]):=by
  refine .of (g:=[]) (by simp [AV.pureL,AV.pure,bs_pure]) ?_
  rw [aCall_fn rfl (E_fn154) (by simp [AV.pureL,AV.pure,bs_pure]) (Nat.le_of_ble_eq_true rfl) rfl rfl,body_154,c154]
  have f0:¬ ((r.length:Int) + 1 + 1 + 1=0):=by omega
  have f1:(0:Int) < (r.length:Int) + 1 + 1 + 1:=by omega
  have f2:¬ ((r.length:Int) + 1 + 1 + 1 ≤ 2):=by omega
  have f3:¬ ((r.length:Int) + 1 + 1 + 1 < 3):=by omega
  have f4:(1:Int) < (r.length:Int) + 1 + 1 + 1:=by omega
  have f5:(2:Int) < (r.length:Int) + 1 + 1 + 1:=by omega
  have w2:IntKind.i64.wrap (z)=z:=w_i64 _ (by omega) (by omega)
  have m2:min (r.length + 1 + 1) 2=2:=by omega
  simp [bs_nil,bs_cons,bs_length,bs_pure,bs_cells,bs_all,f0,f1,f2,f3,f4,f5,w2,m2]
end P8
end
section
open Ab Go TabE P1 P2 P2 P5 P7 P8
namespace P9
theorem get_E3 (f:Bool) (c:Option Nat) (y z u:Int) (r:List Int) (y0:0 < y) (y1:y < 256) (z0:0 ≤ z) (z1:z < 256) (u0:0 ≤ u) (u1:u < 256):Con E 10 154 [.sl f (bs (131 :: y :: z :: u :: r)) c] (.tup [.int .i64 (256 * (256 * y + z) + u),.int .i64 4,.int .i64 0]):=by
  refine .of (g:=[]) (by simp [AV.pureL,AV.pure,bs_pure]) ?_
  rw [aCall_fn rfl (E_fn154) (by simp [AV.pureL,AV.pure,bs_pure]) (Nat.le_of_ble_eq_true rfl) rfl rfl,body_154,c154]
  have f0:¬ ((r.length:Int) + 1 + 1 + 1 + 1=0):=by omega
  have f1:(0:Int) < (r.length:Int) + 1 + 1 + 1 + 1:=by omega
  have f2:¬ ((r.length:Int) + 1 + 1 + 1 + 1 ≤ 3):=by omega
  have f3:¬ ((r.length:Int) + 1 + 1 + 1 + 1 < 4):=by omega
  have f4:(1:Int) < (r.length:Int) + 1 + 1 + 1 + 1:=by omega
  have f5:(2:Int) < (r.length:Int) + 1 + 1 + 1 + 1:=by omega
  have f6:(3:Int) < (r.length:Int) + 1 + 1 + 1 + 1:=by omega
  have f7:¬ y=0:=by omega
  have f8:¬ 256 * (256 * y + z) + u < 128:=by omega
  have f9:¬ 256 * (256 * y + z) + u ≤ 127:=by omega
  have w1:IntKind.i64.wrap (y)=y:=w_i64 _ (by omega) (by omega)
  have w2:IntKind.i64.wrap (z)=z:=w_i64 _ (by omega) (by omega)
  have w3:IntKind.i64.wrap (u)=u:=w_i64 _ (by omega) (by omega)
  have w4:IntKind.i64.wrap (256 * y)=256 * y:=w_i64 _ (by omega) (by omega)
  have w5:IntKind.i64.wrap (256 * y + z)=256 * y + z:=w_i64 _ (by omega) (by omega)
  have w6:IntKind.i64.wrap (256 * (256 * y + z))=256 * (256 * y + z):=w_i64 _ (by omega) (by omega)
  have w7:IntKind.i64.wrap (256 * (256 * y + z) + u)=256 * (256 * y + z) + u:=w_i64 _ (by omega) (by omega)
  have w8:IntKind.i64.wrap (y * 65536)=y * 65536:=w_i64 _ (by omega) (by omega)
  have w9:IntKind.i64.wrap (z * 256)=z * 256:=w_i64 _ (by omega) (by omega)
  have m3:min (r.length + 1 + 1 + 1) 3=3:=by omega
  obtain ⟨o1,p2⟩:=or_three y z u (by omega) (by omega) (by omega) (by omega) (by omega) (by omega)
  have o2:or64 (y * 65536 + z * 256) u=256 * (256 * y + z) + u:=by omega
  have e1:(y == 0)=false:=by simp; omega
  simp [bs_nil,bs_cons,bs_length,bs_pure,bs_cells,bs_all,f0,f1,f2,f3,f4,f5,f6,f7,f8,f9,w1,w2,w3,w8,w9,w7,m3,o1,o2,e1]
theorem get_Z3 (f:Bool) (c:Option Nat) (z u:Int) (r:List Int) (z0:0 ≤ z) (z1:z < 256) (u0:0 ≤ u) (u1:u < 256):Con E 10 154 [.sl f (bs (131 :: 0 :: z :: u :: r)) c] (.tup [.int .i64 0,.int .i64 0,.int .i64 10]):=by
  refine .of (g:=[]) (by simp [AV.pureL,AV.pure,bs_pure]) ?_
  rw [aCall_fn rfl (E_fn154) (by simp [AV.pureL,AV.pure,bs_pure]) (Nat.le_of_ble_eq_true rfl) rfl rfl,body_154,c154]
  have f0:¬ ((r.length:Int) + 1 + 1 + 1 + 1=0):=by omega
  have f1:(0:Int) < (r.length:Int) + 1 + 1 + 1 + 1:=by omega
  have f2:¬ ((r.length:Int) + 1 + 1 + 1 + 1 ≤ 3):=by omega
  have f3:¬ ((r.length:Int) + 1 + 1 + 1 + 1 < 4):=by omega
  have f4:(1:Int) < (r.length:Int) + 1 + 1 + 1 + 1:=by omega
  have f5:(2:Int) < (r.length:Int) + 1 + 1 + 1 + 1:=by omega
  have f6:(3:Int) < (r.length:Int) + 1 + 1 + 1 + 1:=by omega
  have w2:IntKind.i64.wrap (z)=z:=w_i64 _ (by omega) (by omega)
  have w3:IntKind.i64.wrap (u)=u:=w_i64 _ (by omega) (by omega)
  have m3:min (r.length + 1 + 1 + 1) 3=3:=by omega
  simp [bs_nil,bs_cons,bs_length,bs_pure,bs_cells,bs_all,f0,f1,f2,f3,f4,f5,f6,w2,w3,m3]
end P9
end
end
section
open Ab Go TabE
attribute [local simp ↓] s_seq s_reg s_regd s_cond s_block s_cons s_consG
attribute [local simp] s_nil s_loop s_round s_lpn s_lpe s_lpr firstReg s_gt s_gf s_wb s_wu s_val s_valN s_skip s_calls s_callP s_cax lookR flatR pureKs s_ret s_rgx s_sqn s_sqr s_sqe s_cdb s_bkn s_bkr s_bke s_exit s_ret' s_skip' s_finr s_finn s_fin1 s_fix s_clean s_gc0 o_tmp o_int o_bool o_nil o_str o_fn o_nil' l_hit l_miss l_nil ol_nil ol_cons ol_some x_move x_assign x_pick pk_t pk_f x_bin bn_s x_un x_extract x_callF cl_no x_callB x_callBF frzV x_conv cvx convA frame0 binA intOp resL resA results1 sealLW AV.pure AV.pureL keepT x_alloc x_box bxx x_build bdx x_buildSlice bsx x_buildSliceF bsf x_load ldx x_store stx x_slice slx x_fieldAddr x_field x_index ixx x_indexAddr iax x_makeSlice msx x_makeSliceF msf x_nilCheck newK genOf setK lookK fillA writeL writeC readC conts TyI.mk1 sliceA boundsA boundsB fitsA numA indexAddrA fieldAddrA partA fieldA indexA appendA copyA builtinA AV.cells chunk gcH reach keysT keepK inKs AV.keys AV.keysL Ty.isAgg eq1 eqL convA.go ltI w_u8 w_u32 w_u64 w_i64 w_fdiv w_tdiv w_tmod IntKind.bits unA sc_int sc_bool sc_str sc_sl sc_ref sc_ptr sc_pel sc_nilp sc_fn sc_nilf sc_if sc_nili sc_agg sc_tup sc_mem bs_pure bs_kl bs_length bs_cells bs_all sl_row sealRow sealY sl_int sl_bool sl_str sl_sl sl_nilp sl_nilf sl_nili sl_pel sl_agg sl_tup sl_fn sl_if nat_1 bs_cons bs_nil i_beq i_bne x_mkF x_mkI x_tassert x_panic s_pan s_sqp s_bkp s_finp s_fixp s_lpp s_rgp s_retp s_site s_stxN s_stxO x_callT clx El.avs_len
section
open Ab Go TabE Sp
namespace E10
theorem check (e:El) (he:e.ok):∃ N,Con E N 22 [e.av] (.int .i64 (chk e.core 1 0 0).1):=by
  obtain ⟨N,M⟩:=E5.measure e he
  have e1:(E5.meas e).1=(chk e.core 1 0 0).1:=by unfold E5.meas; split <;> simp_all
  rw [e1] at M
  have M':=M (N + 10) (by omega) 0
  rw [El.av_eq] at M'
  refine ⟨N + 10 + 1,con_of E_fn22 (by simp [AV.pureL,El.av_pure]) (Nat.le_of_ble_eq_true rfl) rfl rfl (g:=[]) ?_⟩
  rw [body_22,c22]
  simp [El.av_eq,M']
end E10
end
end
section
open Ab Go TabE Sp
namespace Sp
mutual
def dep:Cr → Int
  | .mk _ _ _ _ s => deps s + 1
def deps:List Cr → Int
  | [] => 0
  | x :: r => max (dep x) (deps r)
end
mutual
def many:Cr → Int → Int
  | .mk _ _ _ _ s,m => if m ≤ 0 then 1 else manys s m 1
def manys:List Cr → Int → Int → Int
  | [],m,n => n
  | x :: r,m,n => if n ≤ m then manys r m (n + many x (m - n)) else n
end
theorem dep_eq (e:El):dep e.core=deps (El.cores e.s) + 1:=by rw [El.core_eq,dep]
mutual
theorem dep_pos:∀ c:Cr,1 ≤ dep c
  | .mk _ _ _ _ s => by unfold dep; have:=deps_pos s; omega
theorem deps_pos:∀ s:List Cr,0 ≤ deps s
  | [] => by unfold deps; omega
  | x :: r => by unfold deps; have:=deps_pos r; omega
end
end Sp
namespace E12
theorem deps_mem {x:El}:∀ {l:List El},x ∈ l → dep x.core ≤ deps (El.cores l)
  | y :: l,h => by
    rw [El.cores,deps]
    rcases List.mem_cons.1 h with rfl | h
    · omega
    · have:=deps_mem h; omega
end E12
end
section
open Ab Go TabE Sp
namespace Sp
mutual
def cnt:Cr → Int
  | .mk _ _ _ _ s => 1 + cnts s
def cnts:List Cr → Int
  | [] => 0
  | x :: r => cnt x + cnts r
end
theorem cnt_eq (e:El):cnt e.core=1 + cnts (El.cores e.s):=by rw [El.core_eq,cnt]
mutual
theorem cnt_pos:∀ c:Cr,1 ≤ cnt c
  | .mk _ _ _ _ s => by unfold cnt; have:=cnts_pos s; omega
theorem cnts_pos:∀ s:List Cr,0 ≤ cnts s
  | [] => by unfold cnts; omega
  | x :: r => by unfold cnts; have:=cnt_pos x; have:=cnts_pos r; omega
end
mutual
theorem chk_dep:∀ (c:Cr) (d m l:Int),(chk c d m l).1=0 → (chk c d m l).2.2=max l (d + dep c - 1) ∧ (chk c d m l).2.1=m + cnt c ∧ d ≤ 16
  | .mk c k n b s,d,m,l,h => by
    unfold chk at h ⊢
    unfold dep cnt
    by_cases h1:tagE c k n=0
    case neg => rw [if_pos h1] at h; exact absurd h h1
    rw [if_neg (by simp [h1])] at h ⊢
    by_cases h2:(k=true ∧ b ≠ []) ∨ (k=false ∧ s ≠ [])
    · rw [if_pos h2] at h; cases h
    rw [if_neg h2] at h ⊢
    by_cases h3:16 < d
    · rw [if_pos h3] at h; cases h
    rw [if_neg h3] at h ⊢
    by_cases h4:m=8192
    · rw [if_pos h4] at h; cases h
    rw [if_neg h4] at h ⊢
    have dp:=deps_pos s
    have:=chks_dep s (d + 1) (m + 1) (max l d) (by omega) h
    omega
theorem chks_dep:∀ (s:List Cr) (d m l:Int),d - 1 ≤ l → (chks s d m l).1=0 → (chks s d m l).2.2=max l (d + deps s - 1) ∧ (chks s d m l).2.1=m + cnts s
  | [],d,m,l,hl,_ => by unfold chks deps cnts; simp only; omega
  | x :: r,d,m,l,hl,h => by
    unfold chks at h ⊢
    unfold deps cnts
    by_cases h1:(chk x d m l).1=0
    · rw [if_neg (by simp [h1])] at h ⊢
      have a:=chk_dep x d m l h1
      have b:=chks_dep r d _ _ (by omega) h
      have:=dep_pos x
      have:=deps_pos r
      omega
    · rw [if_pos h1] at h; exact absurd h h1
end
end Sp
namespace E18
inductive Fw (B:Nat):El → Prop
  | mk (e:El):e.b.length ≤ B → (∀ x ∈ e.s,Fw B x) → Fw B e
theorem fw_len {B:Nat}:∀ e:El,Fw B e → ((enc e.core).length:Int) ≤ (B + 9) * cnt e.core:=by
  refine El.ind fun e ih h => ?_
  obtain ⟨_,h1,h2⟩:=h
  rw [enc_eq,cnt_eq,List.length_append,List.length_append,List.length_append]
  have tl:=tagO_len e.c e.k e.n
  have ll:=lenO_len ((e.b ++ encs (El.cores e.s)).length:Int)
  have key:∀ l:List El,(∀ x ∈ l,((enc x.core).length:Int) ≤ (B + 9) * cnt x.core) → ((encs (El.cores l)).length:Int) ≤ (B + 9) * cnts (El.cores l):=by
    intro l
    induction l with
    | nil => intro _; simp [El.cores,encs,cnts]
    | cons y l ih =>
      intro q
      rw [El.cores,encs,cnts,List.length_append,Int.mul_add]
      have a:=q y (by simp)
      have b:=ih fun x hx => q x (by simp [hx])
      omega
  have k:=key e.s fun x hx => ih x hx (h2 x hx)
  rw [Int.mul_add,Int.mul_one]
  rw [List.length_append] at ll
  omega
theorem fw_sm {B:Nat} (hB:B ≤ 1000000000):∀ e:El,Fw B e → cnt e.core ≤ 1000000000 → e.sm:=by
  refine El.ind fun e ih h hc => ?_
  obtain ⟨_,h1,h2⟩:=h
  rw [cnt_eq] at hc
  have key:∀ l:List El,(l.length:Int) ≤ cnts (El.cores l) ∧ ∀ x ∈ l,cnt x.core ≤ cnts (El.cores l):=by
    intro l
    induction l with
    | nil => simp [El.cores,cnts]
    | cons y l ih =>
      rw [El.cores,cnts]
      have:=cnt_pos y.core
      have:=cnts_pos (El.cores l)
      refine ⟨by rw [List.length_cons]; omega,fun x hx => ?_⟩
      rcases List.mem_cons.1 hx with rfl | hx
      · omega
      · have:=ih.2 x hx; omega
  obtain ⟨k1,k2⟩:=key e.s
  exact (El.sm_eq e).2 ⟨by omega,by omega,fun x hx => ih x hx (h2 x hx) (by have:=k2 x hx; omega)⟩
end E18
end
