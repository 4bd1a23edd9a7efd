/- Own work, no conditions. -/
import Derived.Test.YtbiildmljbcmeaaDoorT23
set_option maxRecDepth 20000
set_option linter.unusedSimpArgs false
set_option linter.unusedVariables false
set_option maxHeartbeats 16000000
section
open Ab Go TabE T1 T2 T3 T7 T9 T11 T12 T13
namespace T34
theorem neg (f c) (n:Int) (b:List Int) (h:n < 0):Con E 50 122 [.sl f (bs b) c,.int .i64 n] (.int .i64 1):=by
  refine .of (g:=[]) (by simp [AV.pureL,AV.pure]) ?_
  rw [aCall_fn rfl (E_fn122) (by simp [AV.pureL,AV.pure]) (Nat.le_of_ble_eq_true rfl) rfl rfl,body_122,c122]
  simp [↓s_seq,↓s_reg,↓s_cond,↓s_block,↓s_cons,s_nil,s_val,s_rgx,s_sqn,s_sqr,s_cdb,s_bkr,s_ret',s_finr,s_fin1,s_fix,s_clean,o_tmp,o_int,l_hit,l_miss,x_move,x_assign,x_bin,bn_s,frame0,binA,intOp,resL,resA,results1,sealA,AV.pure,keepT,gcH,h]
theorem big (f c) (n:Int) (b:List Int) (h:524288 < n):Con E 50 122 [.sl f (bs b) c,.int .i64 n] (.int .i64 3):=by
  refine .of (g:=[]) (by simp [AV.pureL,AV.pure]) ?_
  rw [aCall_fn rfl (E_fn122) (by simp [AV.pureL,AV.pure]) (Nat.le_of_ble_eq_true rfl) rfl rfl,body_122,c122]
  have h0:¬ n < 0:=by omega
  simp [↓s_seq,↓s_reg,↓s_cond,↓s_block,↓s_cons,s_nil,s_val,s_rgx,s_sqn,s_sqr,s_cdb,s_bkr,s_ret',s_finr,s_fin1,s_fix,s_clean,o_tmp,o_int,l_hit,l_miss,x_move,x_assign,x_bin,bn_s,frame0,binA,intOp,resL,resA,results1,sealA,AV.pure,keepT,gcH,h,h0]
theorem wide (f c) (n:Int) (b:List Int) (h0:0 ≤ n) (h1:n ≤ 524288) (hl:b.length ≤ 1000000) (h:8 * (b.length:Int) - n < 0 ∨ 7 < 8 * (b.length:Int) - n):Con E 50 122 [.sl f (bs b) c,.int .i64 n] (.int .i64 1):=by
  refine .of (g:=[]) (by simp [AV.pureL,AV.pure]) ?_
  rw [aCall_fn rfl (E_fn122) (by simp [AV.pureL,AV.pure]) (Nat.le_of_ble_eq_true rfl) rfl rfl,body_122,c122]
  have n0:¬ n < 0:=by omega
  have n1:¬ 524288 < n:=by omega
  have w1:=w64 (n + 7) (by omega) (by omega)
  have q1:(n + 7).tdiv 8=(n + 7) / 8:=Int.tdiv_eq_ediv_of_nonneg (by omega)
  have q2:¬ (b.length:Int)=(n + 7) / 8:=by omega
  have q3:((b.length:Int) != (n + 7) / 8)=true:=by simp [q2]
  have w2:=w64 ((n + 7) / 8) (by omega) (by omega)
  simp [↓s_seq,↓s_reg,↓s_regd,↓s_cond,↓s_block,↓s_cons,↓s_consG,s_nil,s_gf,s_wb,s_wu,s_val,s_rgx,s_sqn,s_sqr,s_cdb,s_bkr,s_ret',s_finr,s_fin1,s_fix,s_clean,o_tmp,o_int,o_bool,l_hit,l_miss,ol_nil,ol_cons,ol_some,x_move,x_assign,x_pick,pk_t,x_bin,bn_s,x_callF,cl_no,x_callB,frame0,binA,intOp,resL,resA,results1,sealA,AV.pure,keepT,x_load,ldx,x_indexAddr,iax,newK,genOf,setK,lookK,writeC,readC,conts,TyI.mk1,indexAddrA,appendA,copyA,builtinA,AV.cells,AV.scal,gcH,Ty.isAgg,bs_length,n0,n1,w1,q1,q3,w2]
theorem low (f c) (x z n:Int) (ys:List Int) (h0:0 ≤ x) (h7:x ≤ 7) (hy:ys ≠ []) (hl:ys.length ≤ 65536) (hn8:n ≤ 524288) (hz:ys[ys.length - 1]? = some z) (hzb:0 ≤ z ∧ z < 256) (hm:¬ z % 2 ^ x.toNat=0) (hn:n=8 * (ys.length:Int) - x) :
    Con E 50 122 [.sl f (bs ys) c,.int .i64 n] (.int .i64 1):=by
  refine .of (g:=[]) (by simp [AV.pureL,AV.pure]) ?_
  rw [aCall_fn rfl (E_fn122) (by simp [AV.pureL,AV.pure]) (Nat.le_of_ble_eq_true rfl) rfl rfl,body_122,c122]
  have hy1:0 < ys.length:=List.length_pos_iff.2 hy
  have n0:¬ n < 0:=by omega
  have n1:¬ 524288 < n:=by omega
  have n2:0 < n:=by omega
  have w1:=w64 (n + 7) (by omega) (by omega)
  have q1:(n + 7).tdiv 8=(n + 7) / 8:=Int.tdiv_eq_ediv_of_nonneg (by omega)
  have q2:(n + 7) / 8=(ys.length:Int):=by omega
  have w2:=w64 (ys.length:Int) (by omega) (by omega)
  have e1:((ys.length:Int) - 1)=((ys.length - 1:Nat):Int):=by omega
  have w3:=w64 ((ys.length:Int) - 1) (by omega) (by omega)
  have ix:=at_ f c ys (ys.length - 1) z hz
  rw [← e1] at ix
  have u:=unused n x (by omega) (by omega) (by omega)
  have am:=and8_mask z hzb.1 hzb.2 x.toNat (by omega)
  have hx:x=0 ∨ x=1 ∨ x=2 ∨ x=3 ∨ x=4 ∨ x=5 ∨ x=6 ∨ x=7:=by omega
  rcases hx with rfl | rfl | rfl | rfl | rfl | rfl | rfl | rfl <;> simp at am hm <;> simp [↓s_seq,↓s_reg,↓s_regd,↓s_cond,↓s_block,↓s_cons,↓s_consG,s_nil,s_gt,s_wb,s_val,s_callP,s_ret,s_rgx,s_sqn,s_sqr,s_cdb,s_bkr,s_ret',s_finr,s_fin1,s_fix,s_clean,o_tmp,o_int,l_hit,l_miss,ol_nil,ol_cons,ol_some,x_move,x_assign,x_pick,pk_t,pk_f,x_bin,bn_s,x_callF,cl_no,x_callB,frame0,binA,intOp,resL,resA,results1,sealA,AV.pure,AV.pureL,keepT,x_load,ldx,x_indexAddr,iax,newK,genOf,setK,lookK,writeC,readC,conts,TyI.mk1,appendA,copyA,builtinA,AV.cells,AV.scal,gcH,Ty.isAgg,w_u8,IntKind.bits,↓i_and,bs_length,n0,n1,n2,w1,q1,q2,w2,w3,ix,u,am,hm]
theorem low0 (f c) (x z n:Int) (ys:List Int) (h0:0 ≤ x) (h7:x ≤ 7) (hy:ys ≠ []) (hl:ys.length ≤ 65536) (hn8:n ≤ 524288) (hz:ys[ys.length - 1]? = some z) (hzb:0 ≤ z ∧ z < 256) (hm:z % 2 ^ x.toNat=0) (hn:n=8 * (ys.length:Int) - x) :
    Con E 50 122 [.sl f (bs ys) c,.int .i64 n] (.int .i64 0):=by
  refine .of (g:=[]) (by simp [AV.pureL,AV.pure]) ?_
  rw [aCall_fn rfl (E_fn122) (by simp [AV.pureL,AV.pure]) (Nat.le_of_ble_eq_true rfl) rfl rfl,body_122,c122]
  have hy1:0 < ys.length:=List.length_pos_iff.2 hy
  have n0:¬ n < 0:=by omega
  have n1:¬ 524288 < n:=by omega
  have n2:0 < n:=by omega
  have w1:=w64 (n + 7) (by omega) (by omega)
  have q1:(n + 7).tdiv 8=(n + 7) / 8:=Int.tdiv_eq_ediv_of_nonneg (by omega)
  have q2:(n + 7) / 8=(ys.length:Int):=by omega
  have w2:=w64 (ys.length:Int) (by omega) (by omega)
  have e1:((ys.length:Int) - 1)=((ys.length - 1:Nat):Int):=by omega
  have w3:=w64 ((ys.length:Int) - 1) (by omega) (by omega)
  have ix:=at_ f c ys (ys.length - 1) z hz
  rw [← e1] at ix
  have u:=unused n x (by omega) (by omega) (by omega)
  have am:=and8_mask z hzb.1 hzb.2 x.toNat (by omega)
  rw [hm] at am
  have hx:x=0 ∨ x=1 ∨ x=2 ∨ x=3 ∨ x=4 ∨ x=5 ∨ x=6 ∨ x=7:=by omega
  rcases hx with rfl | rfl | rfl | rfl | rfl | rfl | rfl | rfl <;> simp at am <;> simp [↓s_seq,↓s_reg,↓s_regd,↓s_cond,↓s_block,↓s_cons,↓s_consG,s_nil,s_gt,s_wb,s_val,s_callP,s_ret,s_rgx,s_sqn,s_cdb,s_bkn,s_ret',s_skip',s_finr,s_fin1,s_fix,s_clean,o_tmp,o_int,l_hit,l_miss,ol_nil,ol_cons,ol_some,x_move,x_assign,x_pick,pk_t,pk_f,x_bin,bn_s,x_callF,cl_no,x_callB,frame0,binA,intOp,resL,resA,results1,sealA,AV.pure,AV.pureL,keepT,x_load,ldx,x_indexAddr,iax,newK,genOf,setK,lookK,writeC,readC,conts,TyI.mk1,appendA,copyA,builtinA,AV.cells,AV.scal,gcH,Ty.isAgg,w_u8,IntKind.bits,↓i_and,bs_length,n0,n1,n2,w1,q1,q2,w2,w3,ix,u,am]
theorem nil0 (f c):Con E 50 122 [.sl f [] c,.int .i64 0] (.int .i64 0):=by
  refine .of (g:=[]) rfl ?_
  rw [aCall_fn rfl (E_fn122) rfl (Nat.le_of_ble_eq_true rfl) rfl rfl,body_122,c122]
  simp [↓s_seq,↓s_reg,↓s_regd,↓s_cond,↓s_block,↓s_cons,↓s_consG,s_nil,s_gt,s_gf,s_wb,s_val,s_rgx,s_sqn,s_cdb,s_bkn,s_ret',s_skip',s_finr,s_fin1,s_fix,s_clean,o_tmp,o_int,o_bool,l_hit,l_miss,ol_nil,ol_cons,ol_some,x_move,x_assign,x_pick,pk_f,x_bin,bn_s,x_callF,cl_no,x_callB,frame0,binA,intOp,resL,resA,results1,sealA,AV.pure,keepT,x_load,ldx,x_indexAddr,iax,newK,genOf,setK,lookK,writeC,readC,conts,TyI.mk1,indexAddrA,appendA,copyA,builtinA,AV.cells,AV.scal,gcH,Ty.isAgg,w_i64,w_tdiv]
def ck (b:List Int) (n:Int):Int:=if n < 0 then 1 else if 524288 < n then 3 else if 8 * (b.length:Int) - n < 0 ∨ 7 < 8 * (b.length:Int) - n then 1 else match b.getLast? with
  | none => 0
  | some z => if z % 2 ^ (8 * (b.length:Int) - n).toNat=0 then 0 else 1
theorem last_get {b:List Int} {z:Int} (h:b.getLast? = some z):b ≠ [] ∧ b[b.length - 1]? = some z:=by
  cases b with
  | nil => cases h
  | cons x r => exact ⟨by simp,by rw [← h,List.getLast?_eq_getElem?]⟩
theorem chk (f c) (b:List Int) (n:Int) (hb:isB b) (hl:b.length ≤ 65536):Con E 50 122 [.sl f (bs b) c,.int .i64 n] (.int .i64 (ck b n)):=by
  unfold ck
  by_cases h0:n < 0
  · rw [if_pos h0]; exact neg f c n b h0
  rw [if_neg h0]
  by_cases h1:524288 < n
  · rw [if_pos h1]; exact big f c n b h1
  rw [if_neg h1]
  by_cases h2:8 * (b.length:Int) - n < 0 ∨ 7 < 8 * (b.length:Int) - n
  · rw [if_pos h2]; exact wide f c n b (by omega) (by omega) (by omega) h2
  rw [if_neg h2]
  cases hz:b.getLast? with
  | none =>
    rw [List.getLast?_eq_none_iff] at hz
    subst hz
    simp at h2
    obtain rfl:n=0:=by omega
    exact nil0 f c
  | some z =>
    obtain ⟨hy,hz⟩:=last_get hz
    have hzb:=hb z (List.mem_of_getElem? hz)
    simp only
    by_cases h3:z % 2 ^ (8 * (b.length:Int) - n).toNat=0
    · rw [if_pos h3]; exact low0 f c _ z n b (by omega) (by omega) hy hl (by omega) hz hzb h3 (by omega)
    · rw [if_neg h3]; exact low f c _ z n b (by omega) (by omega) hy hl (by omega) hz hzb h3 (by omega)
end T34
end
section
open Ab Go TabE T1 T2 T3 T4 T7 T9 T11 T12 T13
namespace T35
abbrev S (l:List Int) (i:Int):St:=⟨[(5,.sl false (is l) none),(6,.int .i64 i)],[]⟩
abbrev Out (l:List Int):AExit × St:=(.exit 0,⟨[(5,.sl false (is l) none),(6,.int .i64 (l.length:Int)),(31,.bool false)],[]⟩)
end T35
end
section
open Ab Go TabE T1 T2 T3 T4 T7 T9 T11 T12 T13 T34
namespace T36
abbrev el (c:Int) (k:Bool) (n:Int) (fb:Bool) (b:List Int) (cb:Option Nat) (fs:Bool) (ss:List AV) (cs:Option Nat):AV:=.agg [.int .u8 c,.bool k,.int .u32 n,.sl fb (bs b) cb,.sl fs ss cs]
abbrev zel:AV:=.agg [.int .u8 0,.bool false,.int .u32 0,.sl true [] (some 0),.sl true [] (some 0)]
theorem nz {v:Int} (hv:v ≠ 0):(v != 0)=true:=by simp [hv]
theorem join0 (f c) (b:List Int) (hl:b.length ≤ 65536):Con E 10 123 [.sl f (bs b) c,.sl true [] (some 0)] (.sl false (bs b) (some b.length)):=by
  have:=joined f true c (some 0) b [] (by omega) (by simp)
  rw [List.append_nil] at this
  exact this
theorem put_err (f c) (b:List Int) (n v:Int) (hv:v ≠ 0) (K:Con E 50 122 [.sl f (bs b) c,.int .i64 n] (.int .i64 v)):Con E 100 75 [.sl f (bs b) c,.int .i64 n] (.tup [.sl true [] (some 0),.int .i64 v]):=by
  refine .of (g:=[]) (by simp [AV.pureL,AV.pure]) ?_
  rw [aCall_fn rfl (E_fn75) (by simp [AV.pureL,AV.pure]) (Nat.le_of_ble_eq_true rfl) rfl rfl,body_75,c75]
  simp [↓s_seq,↓s_reg,↓s_cond,↓s_cons,s_nil,s_val,s_calls,s_cax,s_ret,s_rgx,s_sqn,s_sqr,s_cdb,s_ret',s_finr,s_fin1,s_fix,s_clean,o_tmp,o_int,o_nil,l_hit,l_miss,ol_nil,ol_cons,ol_some,x_move,x_assign,x_bin,bn_s,x_callF,cl_no,frame0,binA,intOp,resL,resA,results1,sealA,sealLW,AV.pure,AV.pureL,keepT,gcH,K,nz hv]
theorem elem_err (f c) (b:List Int) (n v:Int) (hv:v ≠ 0) (P:Con E 100 75 [.sl f (bs b) c,.int .i64 n] (.tup [.sl true [] (some 0),.int .i64 v])):Con E 120 25 [.sl f (bs b) c,.int .i64 n] (.tup [zel,.int .i64 v]):=by
  refine .of (g:=[]) (by simp [AV.pureL,AV.pure]) ?_
  rw [aCall_fn rfl (E_fn25) (by simp [AV.pureL,AV.pure]) (Nat.le_of_ble_eq_true rfl) rfl rfl,body_25,c25]
  simp [↓s_seq,↓s_reg,↓s_cond,↓s_cons,s_nil,s_val,s_skip,s_calls,s_cax,s_ret,s_rgx,s_sqn,s_sqr,s_cdb,s_ret',s_finr,s_fin1,s_fix,s_clean,o_tmp,o_int,l_hit,l_miss,ol_nil,ol_cons,ol_some,x_move,x_assign,x_bin,bn_s,x_extract,x_callF,cl_no,frame0,binA,intOp,resL,resA,results1,sealA,sealLW,AV.pure,AV.pureL,keepT,x_alloc,x_build,bdx,x_store,stx,newK,genOf,setK,lookK,fillA,writeL,writeC,readC,TyI.mk1,AV.cells,AV.scal,gcH,reach,keysT,keepK,inKs,AV.keys,AV.keysL,Ty.isAgg,P,nz hv]
theorem elem_ok (f c) (b xs:List Int) (n:Int) (m:Nat) (P:Con E 100 75 [.sl f (bs b) c,.int .i64 n] (.tup [.sl false (bs xs) (some m),.int .i64 0])):Con E 120 25 [.sl f (bs b) c,.int .i64 n] (.tup [el 0 false 3 false xs (some m) true [] (some 0),.int .i64 0]):=by
  refine .of (g:=[]) (by simp [AV.pureL,AV.pure]) ?_
  rw [aCall_fn rfl (E_fn25) (by simp [AV.pureL,AV.pure]) (Nat.le_of_ble_eq_true rfl) rfl rfl,body_25,c25]
  simp [↓s_seq,↓s_reg,↓s_cond,↓s_cons,s_nil,s_val,s_skip,s_calls,s_cax,s_ret,s_rgx,s_sqn,s_cdb,s_ret',s_skip',s_finr,s_fin1,s_fix,s_clean,o_tmp,o_int,l_hit,l_miss,ol_nil,ol_cons,ol_some,x_move,x_assign,x_bin,bn_s,x_extract,x_callF,cl_no,frame0,binA,intOp,resL,resA,results1,sealA,sealLW,AV.pure,AV.pureL,keepT,x_alloc,x_build,bdx,x_store,stx,newK,genOf,setK,lookK,fillA,writeL,writeC,readC,TyI.mk1,AV.cells,AV.scal,gcH,reach,keysT,keepK,inKs,AV.keys,AV.keysL,Ty.isAgg,P]
end T36
end
