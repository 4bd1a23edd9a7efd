/- Own work, no conditions. -/
import Derived.Test.YtalmnhdnclmhbaaT11
set_option maxRecDepth 20000
set_option linter.unusedSimpArgs false
set_option linter.unusedVariables false
set_option maxHeartbeats 16000000
section
open Ab T1 T2 T4 T5 T6
namespace T12
theorem bits_get:∀ (ys:List Int) (j t:Nat),t < 8 → (bits ys)[8 * j + t]? = (ys[j]?).bind fun y => (b8 y)[t]?
  | [],j,t,ht => by simp [T2.bits]
  | y :: ys,0,t,ht => by
    have e:bits (y :: ys)=b8 y ++ bits ys:=rfl
    rw [e,List.getElem?_append_left (by rw [b8_length]; omega)]
    simp
  | y :: ys,j + 1,t,ht => by
    have e:bits (y :: ys)=b8 y ++ bits ys:=rfl
    rw [e,List.getElem?_append_right (by rw [b8_length]; omega),b8_length]
    have:8 * (j + 1) + t - 8=8 * j + t:=by omega
    rw [this,bits_get ys j t ht]
    simp
theorem b8_bit (y:Int) (h:isB [y]):isBit (b8 y):=by
  have hy:=h y (by simp)
  intro x hx
  simp only [b8,List.mem_cons,List.not_mem_nil,or_false] at hx
  rcases hx with rfl | rfl | rfl | rfl | rfl | rfl | rfl | rfl <;> omega
theorem bits_bit:∀ (ys:List Int),isB ys → isBit (bits ys)
  | [],_ => fun x hx => by simp [T2.bits] at hx
  | y :: ys,h => by
    have e:bits (y :: ys)=b8 y ++ bits ys:=rfl
    intro x hx
    rw [e,List.mem_append] at hx
    rcases hx with hx | hx
    · exact b8_bit y (fun z hz => h z (by simp at hz; simp [hz])) x hx
    · exact bits_bit ys (fun z hz => h z (by simp [hz])) x hx
theorem val_eight (l:List Int) (p:Nat):val l p 8=128 * bit l p + 64 * bit l (p + 1) + 32 * bit l (p + 2) + 16 * bit l (p + 3) + 8 * bit l (p + 4) + 4 * bit l (p + 5) + 2 * bit l (p + 6) + bit l (p + 7):=by
  simp only [val,Nat.add_zero]
  omega
theorem byte_sum (y:Int) (h0:0 ≤ y) (h1:y < 256):128 * (y / 128 % 2) + 64 * (y / 64 % 2) + 32 * (y / 32 % 2) + 16 * (y / 16 % 2) + 8 * (y / 8 % 2) + 4 * (y / 4 % 2) + 2 * (y / 2 % 2) + y / 1 % 2=y:=by omega
theorem val_bits (ys:List Int) (hb:isB ys) (j:Nat) (y:Int) (h:ys[j]? = some y):val (bits ys) (8 * j) 8=y:=by
  have hy:=hb y (List.mem_of_getElem? h)
  have g:∀ t,t < 8 → bit (bits ys) (8 * j + t)=((b8 y)[t]?).getD 0:=fun t ht => by unfold bit; rw [bits_get ys j t ht,h]; rfl
  have g0:=g 0 (by omega)
  rw [Nat.add_zero] at g0
  rw [val_eight,g0,g 1 (by omega),g 2 (by omega),g 3 (by omega),g 4 (by omega),g 5 (by omega),g 6 (by omega),g 7 (by omega)]
  exact byte_sum y hy.1 hy.2
theorem bit_take (l:List Int) (n:Nat) (hz:∀ i,n ≤ i → i < l.length → l[i]? = some 0) (i:Nat):bit (l.take n) i=bit l i:=by
  unfold bit
  by_cases h:i < n
  · rw [List.getElem?_take_of_lt h]
  · rw [List.getElem?_eq_none (by simp; omega)]
    by_cases h2:i < l.length
    · rw [hz i (by omega) h2]; rfl
    · rw [List.getElem?_eq_none (by omega)]
theorem bytes_back (ys:List Int) (hb:isB ys) (n:Nat) (x:Nat) (hx:x ≤ 7) (hn:n + x=8 * ys.length) (hz:∀ i,n ≤ i → i < (bits ys).length → (bits ys)[i]? = some 0):bytesOf ((bits ys).take n)=ys:=by
  have bl:=bits_length ys
  have e:((bits ys).take n).length=n:=by rw [List.length_take]; omega
  unfold bytesOf
  rw [e]
  have e2:(n + 7) / 8=ys.length:=by omega
  rw [e2]
  unfold upto
  apply List.ext_getElem?
  intro j
  by_cases hj:j < ys.length
  · have h:ys[j]? = some ys[j]:=List.getElem?_eq_getElem hj
    have v:=val_bits ys hb j _ h
    have v2:val ((bits ys).take n) (8 * j) 8=val (bits ys) (8 * j) 8:=by
      rw [val_eight,val_eight]
      simp only [bit_take _ _ hz]
    rw [h]
    simp [hj,v2,v]
  · rw [List.getElem?_eq_none (by simp; omega),List.getElem?_eq_none (by omega)]
end T12
end
section
open Ab T1 T2 T4 T5 T6 T12
namespace T13
theorem low (z:Int) (h0:0 ≤ z) (h1:z < 256) (x t:Nat) (hx:x ≤ 7) (ht:t < 8) (hxt:8 ≤ x + t) (hm:z % 2 ^ x=0):(b8 z)[t]? = some 0:=by
  have hx:x=0 ∨ x=1 ∨ x=2 ∨ x=3 ∨ x=4 ∨ x=5 ∨ x=6 ∨ x=7:=by omega
  have ht:t=0 ∨ t=1 ∨ t=2 ∨ t=3 ∨ t=4 ∨ t=5 ∨ t=6 ∨ t=7:=by omega
  rcases hx with rfl | rfl | rfl | rfl | rfl | rfl | rfl | rfl <;> rcases ht with rfl | rfl | rfl | rfl | rfl | rfl | rfl | rfl <;>
    first
    | (exfalso; omega)
    | (simp only [Int.reducePow] at hm; simp only [b8,List.getElem?_cons_succ,List.getElem?_cons_zero,Option.some.injEq]; omega)
theorem high (z:Int) (h0:0 ≤ z) (h1:z < 256) (x:Nat) (hx:x ≤ 7) (h:∀ t,t < 8 → 8 ≤ x + t → (b8 z)[t]? = some 0):z % 2 ^ x=0:=by
  have hx:x=0 ∨ x=1 ∨ x=2 ∨ x=3 ∨ x=4 ∨ x=5 ∨ x=6 ∨ x=7:=by omega
  have g:∀ t,t < 8 → 8 ≤ x + t → ∀ v,(b8 z)[t]? = some v → v=0:=fun t a b v e => by rw [h t a b] at e; exact (Option.some.inj e).symm
  rcases hx with rfl | rfl | rfl | rfl | rfl | rfl | rfl | rfl
  · omega
  · have:=g 7 (by omega) (by omega) _ rfl
    simp only [Int.reducePow]; omega
  · have:=g 7 (by omega) (by omega) _ rfl
    have:=g 6 (by omega) (by omega) _ rfl
    simp only [Int.reducePow]; omega
  · have:=g 7 (by omega) (by omega) _ rfl
    have:=g 6 (by omega) (by omega) _ rfl
    have:=g 5 (by omega) (by omega) _ rfl
    simp only [Int.reducePow]; omega
  · have:=g 7 (by omega) (by omega) _ rfl
    have:=g 6 (by omega) (by omega) _ rfl
    have:=g 5 (by omega) (by omega) _ rfl
    have:=g 4 (by omega) (by omega) _ rfl
    simp only [Int.reducePow]; omega
  · have:=g 7 (by omega) (by omega) _ rfl
    have:=g 6 (by omega) (by omega) _ rfl
    have:=g 5 (by omega) (by omega) _ rfl
    have:=g 4 (by omega) (by omega) _ rfl
    have:=g 3 (by omega) (by omega) _ rfl
    simp only [Int.reducePow]; omega
  · have:=g 7 (by omega) (by omega) _ rfl
    have:=g 6 (by omega) (by omega) _ rfl
    have:=g 5 (by omega) (by omega) _ rfl
    have:=g 4 (by omega) (by omega) _ rfl
    have:=g 3 (by omega) (by omega) _ rfl
    have:=g 2 (by omega) (by omega) _ rfl
    simp only [Int.reducePow]; omega
  · have:=g 7 (by omega) (by omega) _ rfl
    have:=g 6 (by omega) (by omega) _ rfl
    have:=g 5 (by omega) (by omega) _ rfl
    have:=g 4 (by omega) (by omega) _ rfl
    have:=g 3 (by omega) (by omega) _ rfl
    have:=g 2 (by omega) (by omega) _ rfl
    have:=g 1 (by omega) (by omega) _ rfl
    simp only [Int.reducePow]; omega
theorem first:∀ (m:Nat) {l:List Int} {n:Nat},n + m=l.length → (∀ i,n ≤ i → i < l.length → l[i]? = some 0) ∨ ∃ j y,l[n + j]? = some y ∧ ¬ y=0 ∧ ∀ i,i < j → l[n + i]? = some 0
  | 0,l,n,e => .inl fun i h1 h2 => by omega
  | m + 1,l,n,e => by
    obtain ⟨y,hy⟩:∃ y,l[n]? = some y:=⟨l[n],by simp⟩
    by_cases h0:y=0
    · subst h0
      rcases first m (l:=l) (n:=n + 1) (by omega) with h | ⟨j,v,h1,h2,h3⟩
      · refine .inl fun i a b => ?_
        by_cases e:i=n
        · rw [e]; exact hy
        · exact h i (by omega) b
      · refine .inr ⟨j + 1,v,by rw [← h1]; congr 1; omega,h2,fun i hi => ?_⟩
        cases i with
        | zero => exact hy
        | succ i => have:=h3 i (by omega); rw [← this]; congr 1; omega
    · exact .inr ⟨0,y,hy,h0,fun i hi => by omega⟩
theorem tail (ys:List Int) (hb:isB ys) (x n:Nat) (z:Int) (hx:x ≤ 7) (hy:ys ≠ []) (hn:n + x=8 * ys.length) (hz:ys[ys.length - 1]? = some z) :
    (∀ i,n ≤ i → i < (bits ys).length → (bits ys)[i]? = some 0) ↔ z % 2 ^ x=0:=by
  have hzb:=hb z (List.mem_of_getElem? hz)
  have bl:=bits_length ys
  have hl:0 < ys.length:=List.length_pos_iff.2 hy
  have g:∀ t,t < 8 → (bits ys)[8 * (ys.length - 1) + t]? = (b8 z)[t]?:=fun t ht => by rw [bits_get ys _ t ht,hz]; rfl
  constructor
  · intro h
    refine high z hzb.1 hzb.2 x hx fun t ht hxt => ?_
    rw [← g t ht]
    exact h _ (by omega) (by omega)
  · intro h i hi hi2
    obtain ⟨t,ht,rfl⟩:∃ t,t < 8 ∧ i=8 * (ys.length - 1) + t:=⟨i - 8 * (ys.length - 1),by omega,by omega⟩
    rw [g t ht]
    exact low z hzb.1 hzb.2 x t hx ht (by omega) h
end T13
end
section
open Ab Go TabB
attribute [local simp ↓] s_seq s_reg s_regd s_cond s_block s_cons s_consG
attribute [local simp] s_nil s_loop s_round s_lpn s_lpe s_lpr firstReg s_gt s_gf s_wb s_wu s_val s_valN s_skip s_calls s_callP s_cax lookR flatR pureKs s_ret s_rgx s_sqn s_sqr s_sqe s_cdb s_bkn s_bkr s_bke s_exit s_ret' s_skip' s_finr s_finn s_fin1 s_fix s_clean s_gc0 o_tmp o_int o_bool o_nil o_str o_fn o_nil' l_hit l_miss l_nil ol_nil ol_cons ol_some x_move x_assign x_pick pk_t pk_f x_bin bn_s x_un x_extract x_callF cl_no x_callB x_callBF frzV x_conv cvx convA frame0 binA intOp resL resA results1 sealA sealLW AV.pure AV.pureL keepT x_alloc x_box bxx x_build bdx x_buildSlice bsx x_buildSliceF bsf x_load ldx x_store stx x_slice slx x_fieldAddr x_field x_index ixx x_indexAddr iax x_makeSlice msx x_nilCheck newK genOf setK lookK fillA writeL writeC readC conts TyI.mk1 sliceA boundsA boundsB fitsA numA indexAddrA fieldAddrA partA fieldA indexA appendA copyA builtinA AV.cells AV.scal chunk gcH reach keysT keepK inKs AV.keys AV.keysL Ty.isAgg eq1 eqL convA.go ltI w_u8 w_u32 w_u64 w_i64 w_fdiv w_tdiv w_tmod IntKind.bits unA
section
open Ab Go TabB T1 T2 T3 T9 T11
namespace T16
theorem bit_ (f c) (n v:Int) (ys:List Int) (j t:Nat) (y:Int) (hb:isB ys) (hl:ys.length ≤ 100) (hy:ys[j]? = some y) (ht:t < 8) (hk:((8 * j + t:Nat):Int) < n) (K:Con E 50 36 [.sl f (bs ys) c,.int .i64 n] (.int .i64 0)) (hv:(b8 y)[t]? = some v) :
    Con E 60 40 [.sl f (bs ys) c,.int .i64 n,.int .i64 ((8 * j + t:Nat):Int)] (.bool (v == 1)):=by
  refine .of (g:=[]) (by simp [AV.pureL,AV.pure,bs_pure]) ?_
  rw [aCall_fn rfl (E_fn40) (by simp [AV.pureL,AV.pure,bs_pure]) (Nat.le_of_ble_eq_true rfl) rfl rfl,body_40,c40]
  have hlt:j < ys.length:=(List.getElem?_eq_some_iff.1 hy).1
  have yb:=hb y (List.mem_of_getElem? hy)
  generalize hK:((8 * j + t:Nat):Int)=k at *
  have k0:¬ k < 0:=by omega
  have k1:¬ n ≤ k:=by omega
  have k2:0 ≤ k:=by omega
  have q1:k.tdiv 8=(j:Int):=by rw [Int.tdiv_eq_ediv_of_nonneg k2]; omega
  have q2:k.tmod 8=(t:Int):=by rw [Int.tmod_eq_emod_of_nonneg k2]; omega
  have w1:=w64 (j:Int) (by omega) (by omega)
  have ix:=at_ f c ys j y hy
  have ht2:t=0 ∨ t=1 ∨ t=2 ∨ t=3 ∨ t=4 ∨ t=5 ∨ t=6 ∨ t=7:=by omega
  have am:∀ m:Int,0 ≤ y / m → y / m < 256 → and8 (y / m) 1=y / m % 2:=fun m a b => by
    have:=and8_mask (y / m) a b 1 (by omega)
    simpa using this
  rcases ht2 with rfl | rfl | rfl | rfl | rfl | rfl | rfl | rfl
  · have d:y.fdiv 128=y / 128:=Int.fdiv_eq_ediv_of_nonneg y (by decide)
    have a:=am 128 (by omega) (by omega)
    have e:v=y / 128 % 2:=by simp only [b8,List.getElem?_cons_succ,List.getElem?_cons_zero,Option.some.injEq] at hv; exact hv.symm
    have q2':k.tmod 8=0:=q2
    subst e
    simp [↓i_and,bs_pure,K,k0,k1,q1,q2',w1,-indexAddrA,ix,d,a]
  · have d:y.fdiv 64=y / 64:=Int.fdiv_eq_ediv_of_nonneg y (by decide)
    have a:=am 64 (by omega) (by omega)
    have e:v=y / 64 % 2:=by simp only [b8,List.getElem?_cons_succ,List.getElem?_cons_zero,Option.some.injEq] at hv; exact hv.symm
    have q2':k.tmod 8=1:=q2
    subst e
    simp [↓i_and,bs_pure,K,k0,k1,q1,q2',w1,-indexAddrA,ix,d,a]
  · have d:y.fdiv 32=y / 32:=Int.fdiv_eq_ediv_of_nonneg y (by decide)
    have a:=am 32 (by omega) (by omega)
    have e:v=y / 32 % 2:=by simp only [b8,List.getElem?_cons_succ,List.getElem?_cons_zero,Option.some.injEq] at hv; exact hv.symm
    have q2':k.tmod 8=2:=q2
    subst e
    simp [↓i_and,bs_pure,K,k0,k1,q1,q2',w1,-indexAddrA,ix,d,a]
  · have d:y.fdiv 16=y / 16:=Int.fdiv_eq_ediv_of_nonneg y (by decide)
    have a:=am 16 (by omega) (by omega)
    have e:v=y / 16 % 2:=by simp only [b8,List.getElem?_cons_succ,List.getElem?_cons_zero,Option.some.injEq] at hv; exact hv.symm
    have q2':k.tmod 8=3:=q2
    subst e
    simp [↓i_and,bs_pure,K,k0,k1,q1,q2',w1,-indexAddrA,ix,d,a]
  · have d:y.fdiv 8=y / 8:=Int.fdiv_eq_ediv_of_nonneg y (by decide)
    have a:=am 8 (by omega) (by omega)
    have e:v=y / 8 % 2:=by simp only [b8,List.getElem?_cons_succ,List.getElem?_cons_zero,Option.some.injEq] at hv; exact hv.symm
    have q2':k.tmod 8=4:=q2
    subst e
    simp [↓i_and,bs_pure,K,k0,k1,q1,q2',w1,-indexAddrA,ix,d,a]
  · have d:y.fdiv 4=y / 4:=Int.fdiv_eq_ediv_of_nonneg y (by decide)
    have a:=am 4 (by omega) (by omega)
    have e:v=y / 4 % 2:=by simp only [b8,List.getElem?_cons_succ,List.getElem?_cons_zero,Option.some.injEq] at hv; exact hv.symm
    have q2':k.tmod 8=5:=q2
    subst e
    simp [↓i_and,bs_pure,K,k0,k1,q1,q2',w1,-indexAddrA,ix,d,a]
  · have d:y.fdiv 2=y / 2:=Int.fdiv_eq_ediv_of_nonneg y (by decide)
    have a:=am 2 (by omega) (by omega)
    have e:v=y / 2 % 2:=by simp only [b8,List.getElem?_cons_succ,List.getElem?_cons_zero,Option.some.injEq] at hv; exact hv.symm
    have q2':k.tmod 8=6:=q2
    subst e
    simp [↓i_and,bs_pure,K,k0,k1,q1,q2',w1,-indexAddrA,ix,d,a]
  · have d:y.fdiv 1=y / 1:=Int.fdiv_eq_ediv_of_nonneg y (by decide)
    have a:=am 1 (by omega) (by omega)
    have e:v=y / 1 % 2:=by simp only [b8,List.getElem?_cons_succ,List.getElem?_cons_zero,Option.some.injEq] at hv; exact hv.symm
    have q2':k.tmod 8=7:=q2
    have a':and8 y 1=y % 2:=by simpa using a
    subst e
    simp [↓i_and,bs_pure,K,k0,k1,q1,q2',w1,-indexAddrA,ix,d,a,a']
end T16
end
section
open Ab Go TabB T1 T2 T4
namespace T14
def b27:Code:=match c27 with
  | .seq _ (.seq _ (.seq _ (.seq _ (.seq _ (.seq _ (.seq (.seq _ (.block _ (.loop b))) _)))))) => b
  | _ => .skip
def W:List Int → Int
  | [] => 0
  | x :: r => 2 * W r + x
theorem W_lt:∀ {l:List Int},isBit l → 0 ≤ W l ∧ W l < 2 ^ l.length
  | [],_ => by simp [W]
  | x :: r,h => by
    have a:=W_lt (l:=r) fun z hz => h z (by simp [hz])
    have b:=h x (by simp)
    simp only [W,List.length_cons]
    rw [Int.pow_succ]
    omega
abbrev S (l:List Int) (w i:Int):St:=⟨[(4,.sl false (is l) none),(6,.int .u64 w),(7,.int .i64 i)],[]⟩
theorem round (call sc) (k1:Nat) (l:List Int) (w:Int) (i:Nat) (x:Int) (h:l[i]? = some x) (hx:x=0 ∨ x=1) (hl:l.length < 1000000) (w0:0 ≤ w) (w1:2 * w + x < 18446744073709551616) :
    aCode E call sc k1 1 fn27 b27 (cleanS 1 ((firstReg b27).bind fn27.head) (S l w (i:Int)))=some (.normal,S l (2 * w + x) ((i:Int) - 1)):=by
  have hi:i < l.length:=(List.getElem?_eq_some_iff.1 h).1
  have ix:=atI false none l i x h
  have i0:(0:Int) ≤ (i:Int):=by omega
  have v1:IntKind.i64.wrap ((i:Int) - 1)=(i:Int) - 1:=w_i64 _ (by omega) (by omega)
  have v2:2 * w % 18446744073709551616=2 * w:=Int.emod_eq_of_lt (by omega) (by omega)
  have v3:x % 18446744073709551616=x:=Int.emod_eq_of_lt (by omega) (by omega)
  have v4:(2 * w + x) % 18446744073709551616=2 * w + x:=Int.emod_eq_of_lt (by omega) w1
  have p:=is_pure l
  have kk:=is_keys l
  simp [b27,c27,p,kk,i0,-indexAddrA,ix,v1,v2,v3,v4]
theorem fin (call sc) (k1:Nat) (l:List Int) (w:Int) :
    aCode E call sc k1 1 fn27 b27 (cleanS 1 ((firstReg b27).bind fn27.head) (S l w (-1)))=some (.exit 0,⟨[(4,.sl false (is l) none),(6,.int .u64 w),(7,.int .i64 (-1)),(35,.bool false)],[]⟩):=by
  have p:=is_pure l
  have kk:=is_keys l
  simp [b27,c27,p,kk]
theorem loop (call sc) (k1 k:Nat) (l:List Int) (hb:isBit l) (hl:l.length ≤ 64) (hk:l.length < k) :
    aLoop (aCode E call sc k1 1 fn27 b27) (cleanS 1 ((firstReg b27).bind fn27.head)) k (S l 0 ((l.length:Int) - 1))=some (.exit 0,⟨[(4,.sl false (is l) none),(6,.int .u64 (W l)),(7,.int .i64 (-1)),(35,.bool false)],[]⟩):=by
  refine loopR (fun j => S l (W (l.drop (l.length - j))) ((l.length:Int) - 1 - (j:Int))) l.length ?_ (fun j hj => ?_) ?_ (by simp) hk
  · simp [W]
  · obtain ⟨x,e⟩:∃ x,l[l.length - 1 - j]? = some x:=⟨l[l.length - 1 - j],by simp⟩
    have hx:=hb x (List.mem_of_getElem? e)
    have d:l.drop (l.length - (j + 1))=x :: l.drop (l.length - j):=by
      have e1:l.length - (j + 1)=l.length - 1 - j:=by omega
      have e2:l.length - j=l.length - 1 - j + 1:=by omega
      rw [e1,e2]
      obtain ⟨hlt,hv⟩:=List.getElem?_eq_some_iff.1 e
      rw [List.drop_eq_getElem_cons hlt,hv]
    have hd:isBit (l.drop (l.length - (j + 1))):=fun z hz => hb z (List.mem_of_mem_drop hz)
    have lt:=W_lt hd
    have ld:(l.drop (l.length - (j + 1))).length ≤ 64:=by rw [List.length_drop]; omega
    have pw:(2:Int) ^ (l.drop (l.length - (j + 1))).length ≤ 2 ^ 64:=by
      have:=Nat.pow_le_pow_right (n:=2) (by decide) ld
      exact_mod_cast this
    have p64:(2:Int) ^ 64=18446744073709551616:=by decide
    have hd2:isBit (l.drop (l.length - j)):=fun z hz => hb z (List.mem_of_mem_drop hz)
    rw [d] at lt pw
    simp only [W] at lt
    have r:=round call sc k1 l (W (l.drop (l.length - j))) (l.length - 1 - j) x e hx (by omega) (W_lt hd2).1 (by omega)
    rw [d]
    have e3:(((l.length - 1 - j:Nat)):Int)=(l.length:Int) - 1 - (j:Int):=by omega
    have e4:(l.length:Int) - 1 - ((j + 1:Nat):Int)=(l.length:Int) - 1 - (j:Int) - 1:=by omega
    rw [e3] at r
    simp only [W,e4]
    exact r
  · have e:(l.length:Int) - 1 - (l.length:Int) = -1:=by omega
    simp only [Nat.sub_self,List.drop_zero,e]
    exact fin call sc k1 l (W l)
end T14
end
section
open Ab Go TabB T1 T2 T3 T4 T14
namespace T17
def orU (a b:Int):Int:=IntKind.u64.wrap ((BitVec.ofInt 64 a ||| BitVec.ofInt 64 b).toNat:Nat)
theorem i_orU (a b:Int):intOp .or .u64 a b=some (.int .u64 (orU a b)):=rfl
theorem orU_pow (w:Int) (k:Nat) (h0:0 ≤ w) (h1:w < 2 ^ k) (hk:k < 64):orU w (2 ^ k)=w + 2 ^ k:=by
  obtain ⟨a,rfl⟩:=Int.eq_ofNat_of_zero_le h0
  have e:((2:Int) ^ k)=((2 ^ k:Nat):Int):=by exact_mod_cast rfl
  have lt:a < 2 ^ k:=by rw [e] at h1; exact_mod_cast h1
  have pk:2 ^ k < 2 ^ 64:=Nat.pow_lt_pow_right (by decide) hk
  have pk2:2 ^ k ≤ 2 ^ 63:=Nat.pow_le_pow_right (by decide) (by omega)
  unfold orU
  rw [e,BitVec.ofInt_natCast,BitVec.ofInt_natCast,BitVec.toNat_or,BitVec.toNat_ofNat,BitVec.toNat_ofNat,Nat.mod_eq_of_lt (by omega),Nat.mod_eq_of_lt pk]
  have o:=Nat.shiftLeft_add_eq_or_of_lt lt 1
  rw [Nat.shiftLeft_eq,Nat.one_mul] at o
  rw [Nat.or_comm,← o,w_u64]
  rw [Int.emod_eq_of_lt (by omega) (by omega)]
  omega
theorem W_take:∀ (l:List Int) (k:Nat) (x:Int),l[k]? = some x → W (l.take (k + 1))=W (l.take k) + x * 2 ^ k
  | [],k,x,h => by simp at h
  | y :: l,0,x,h => by simp at h; subst h; simp [W]
  | y :: l,k + 1,x,h => by
    have:=W_take l k x (by simpa using h)
    simp only [List.take_succ_cons,W,this,Int.pow_succ]
    rw [Int.mul_add,← Int.mul_assoc,Int.mul_comm 2 x,Int.mul_assoc,Int.mul_comm 2 (2 ^ k)]
    omega
def b48:Code:=match c48 with
  | .seq _ (.seq _ (.seq _ (.seq _ (.seq (.seq _ (.block _ (.loop b))) _)))) => b
  | _ => .skip
abbrev S (ys:List Int) (n w k:Int):St:=⟨[(4,.sl false (bs ys) (some ys.length)),(5,.int .i64 n),(7,.int .u64 w),(58,.int .i64 n),(59,.int .i64 k)],[]⟩
theorem one (q:Nat) (k1:Nat) (ys:List Int) (n w:Int) (k:Nat) (hk:k < 64) (hn:(k:Int) < n) (w0:0 ≤ w) (w1:w < 2 ^ k) (B:Con E 60 40 [.sl false (bs ys) (some ys.length),.int .i64 n,.int .i64 (k:Int)] (.bool true)) (hq:60 ≤ q) :
    aCode E (aCall E q) (dcall (aRun E q)) k1 1 fn48 b48 (cleanS 1 ((firstReg b48).bind fn48.head) (S ys n w (k:Int)))=some (.normal,S ys n (w + 2 ^ k) ((k + 1:Nat):Int)):=by
  have p:=bs_pure ys
  have kk:AV.keysL (bs ys)=[]:=AV.keysL_pure _ p
  have k0:¬ (k:Int) < 0:=by omega
  have mk:min k 64=k:=by omega
  have pk2:(2:Int) ^ k < 18446744073709551616:=by
    have h:2 ^ k < 2 ^ 64:=Nat.pow_lt_pow_right (by decide) hk
    rw [show (2:Nat) ^ 64=18446744073709551616 from rfl] at h
    have e:((2:Int) ^ k)=((2 ^ k:Nat):Int):=by exact_mod_cast rfl
    rw [e]; omega
  have pk0:(0:Int) < 2 ^ k:=Int.pow_pos (by decide)
  have m1:(2:Int) ^ k % 18446744073709551616=2 ^ k:=Int.emod_eq_of_lt (by omega) pk2
  have o:=orU_pow w k w0 w1 hk
  have w5:=w64 ((k:Int) + 1) (by omega) (by omega)
  have e:((k + 1:Nat):Int)=(k:Int) + 1:=by omega
  have b:aCall E q 0 40 [.sl false (bs ys) (some ys.length),.int .i64 n,.int .i64 (k:Int)]=fun h => some (.ret (.bool true),h):=funext fun h => B q hq 0 h
  simp [b48,c48,↓i_orU,p,kk,hn,b,k0,mk,m1,o,w5]
theorem zero (q:Nat) (k1:Nat) (ys:List Int) (n w:Int) (k:Nat) (hk:k < 64) (hn:(k:Int) < n) (B:Con E 60 40 [.sl false (bs ys) (some ys.length),.int .i64 n,.int .i64 (k:Int)] (.bool false)) (hq:60 ≤ q) :
    aCode E (aCall E q) (dcall (aRun E q)) k1 1 fn48 b48 (cleanS 1 ((firstReg b48).bind fn48.head) (S ys n w (k:Int)))=some (.normal,S ys n w ((k + 1:Nat):Int)):=by
  have p:=bs_pure ys
  have kk:AV.keysL (bs ys)=[]:=AV.keysL_pure _ p
  have w5:=w64 ((k:Int) + 1) (by omega) (by omega)
  have e:((k + 1:Nat):Int)=(k:Int) + 1:=by omega
  have b:aCall E q 0 40 [.sl false (bs ys) (some ys.length),.int .i64 n,.int .i64 (k:Int)]=fun h => some (.ret (.bool false),h):=funext fun h => B q hq 0 h
  simp [b48,c48,p,kk,hn,b,w5]
theorem fin (q:Nat) (k1:Nat) (ys:List Int) (n w:Int) :
    aCode E (aCall E q) (dcall (aRun E q)) k1 1 fn48 b48 (cleanS 1 ((firstReg b48).bind fn48.head) (S ys n w n))=some (.exit 1,⟨[(4,.sl false (bs ys) (some ys.length)),(5,.int .i64 n),(7,.int .u64 w),(58,.int .i64 n),(59,.int .i64 n),(60,.bool false)],[]⟩):=by
  have p:=bs_pure ys
  have kk:AV.keysL (bs ys)=[]:=AV.keysL_pure _ p
  simp [b48,c48,p,kk]
end T17
end
end
section
open Ab Go TabB T1 T2 T4 T14
namespace T15
theorem err (f c) (cs:List Int) (e:Int) (he:¬ e=0) (G:Con E 1000 22 [.sl f (bs cs) c] (.tup [.sl true [] (some 0),.int .i64 e])):Con E 1010 27 [.sl f (bs cs) c] (.tup [.int .u64 0,.int .i64 e]):=by
  refine .of (g:=[]) (by simp [AV.pureL,AV.pure]) ?_
  rw [aCall_fn rfl (E_fn27) (by simp [AV.pureL,AV.pure]) (Nat.le_of_ble_eq_true rfl) rfl rfl,body_27,c27]
  have e1:(e != 0)=true:=by simp [he]
  simp [↓s_seq,↓s_reg,↓s_cond,↓s_cons,s_nil,s_val,s_calls,s_cax,s_ret,s_rgx,s_sqn,s_sqr,s_cdb,s_ret',s_finr,s_fin1,s_fix,s_clean,o_tmp,o_int,l_hit,l_miss,ol_nil,ol_cons,ol_some,x_move,x_assign,x_bin,bn_s,x_extract,x_callF,cl_no,frame0,binA,intOp,resL,resA,results1,sealA,sealLW,AV.pure,AV.pureL,keepT,gcH,G,e1]
theorem none_ (f c) (cs:List Int) (G:Con E 1000 22 [.sl f (bs cs) c] (.tup [.sl true [] (some 0),.int .i64 0])):Con E 1010 27 [.sl f (bs cs) c] (.tup [.int .u64 0,.int .i64 0]):=by
  refine .of (g:=[]) (by simp [AV.pureL,AV.pure]) ?_
  rw [aCall_fn rfl (E_fn27) (by simp [AV.pureL,AV.pure]) (Nat.le_of_ble_eq_true rfl) rfl rfl,body_27,c27]
  simp [↓s_seq,↓s_reg,↓s_cond,↓s_block,↓s_cons,↓s_consG,s_nil,s_loop,s_round,s_lpe,firstReg,s_gf,s_wb,s_val,s_calls,s_cax,s_ret,s_rgx,s_sqn,s_sqe,s_cdb,s_bke,s_exit,s_ret',s_skip',s_finr,s_fin1,s_fix,s_clean,o_tmp,o_int,o_bool,l_hit,l_miss,ol_nil,ol_cons,ol_some,x_move,x_assign,x_pick,pk_f,x_bin,bn_s,x_extract,x_callF,cl_no,x_callB,frame0,binA,intOp,resL,resA,results1,sealA,sealLW,AV.pure,AV.pureL,keepT,x_load,ldx,x_indexAddr,iax,newK,genOf,setK,lookK,writeC,readC,conts,TyI.mk1,indexAddrA,appendA,copyA,builtinA,AV.cells,AV.scal,gcH,Ty.isAgg,w_i64,G]
theorem zero_ (f c) (cs l:List Int) (hl:l ≠ []) (hn:l.length < 1000000) (hz:l[l.length - 1]? = some 0) (G:Con E 1000 22 [.sl f (bs cs) c] (.tup [.sl false (is l) none,.int .i64 0])):Con E 1010 27 [.sl f (bs cs) c] (.tup [.int .u64 0,.int .i64 11]):=by
  refine .of (g:=[]) (by simp [AV.pureL,AV.pure]) ?_
  rw [aCall_fn rfl (E_fn27) (by simp [AV.pureL,AV.pure]) (Nat.le_of_ble_eq_true rfl) rfl rfl,body_27,c27]
  have h0:0 < l.length:=List.length_pos_iff.2 hl
  have ix:=atI false none l (l.length - 1) 0 hz
  have e1:((l.length - 1:Nat):Int)=(l.length:Int) - 1:=by omega
  rw [e1] at ix
  have w:=w64 ((l.length:Int) - 1) (by omega) (by omega)
  have p:=is_pure l
  have ln:=is_length l
  simp [↓s_seq,↓s_reg,↓s_cond,↓s_cons,↓s_consG,s_nil,s_gt,s_wb,s_val,s_calls,s_cax,s_ret,s_rgx,s_sqn,s_sqr,s_cdb,s_ret',s_skip',s_finr,s_fin1,s_fix,s_clean,o_tmp,o_int,l_hit,l_miss,ol_nil,ol_cons,ol_some,x_move,x_assign,x_pick,pk_t,x_bin,bn_s,x_extract,x_callF,cl_no,x_callB,frame0,binA,intOp,resL,resA,results1,sealA,sealLW,AV.pure,AV.pureL,keepT,x_load,ldx,x_indexAddr,iax,newK,genOf,setK,lookK,writeC,readC,conts,TyI.mk1,appendA,copyA,builtinA,AV.cells,AV.scal,gcH,Ty.isAgg,G,ln,h0,w,ix]
theorem big_ (f c) (cs l:List Int) (hl:l ≠ []) (hn:l.length < 1000000) (hz:l[l.length - 1]? = some 1) (h64:64 < l.length) (G:Con E 1000 22 [.sl f (bs cs) c] (.tup [.sl false (is l) none,.int .i64 0])):Con E 1010 27 [.sl f (bs cs) c] (.tup [.int .u64 0,.int .i64 3]):=by
  refine .of (g:=[]) (by simp [AV.pureL,AV.pure]) ?_
  rw [aCall_fn rfl (E_fn27) (by simp [AV.pureL,AV.pure]) (Nat.le_of_ble_eq_true rfl) rfl rfl,body_27,c27]
  have h0:0 < l.length:=List.length_pos_iff.2 hl
  have ix:=atI false none l (l.length - 1) 1 hz
  have e1:((l.length - 1:Nat):Int)=(l.length:Int) - 1:=by omega
  rw [e1] at ix
  have w:=w64 ((l.length:Int) - 1) (by omega) (by omega)
  have b:(64:Int) < (l.length:Int):=by omega
  have p:=is_pure l
  have ln:=is_length l
  simp [↓s_seq,↓s_reg,↓s_cond,↓s_cons,↓s_consG,s_nil,s_gt,s_wb,s_val,s_calls,s_cax,s_ret,s_rgx,s_sqn,s_sqr,s_cdb,s_ret',s_skip',s_finr,s_fin1,s_fix,s_clean,o_tmp,o_int,l_hit,l_miss,ol_nil,ol_cons,ol_some,x_move,x_assign,x_pick,pk_t,x_bin,bn_s,x_extract,x_callF,cl_no,x_callB,frame0,binA,intOp,resL,resA,results1,sealA,sealLW,AV.pure,AV.pureL,keepT,x_load,ldx,x_indexAddr,iax,newK,genOf,setK,lookK,writeC,readC,conts,TyI.mk1,appendA,copyA,builtinA,AV.cells,AV.scal,gcH,Ty.isAgg,G,ln,h0,w,ix,b]
theorem ok_ (f c) (cs l:List Int) (hb:isBit l) (hl:l ≠ []) (hz:l[l.length - 1]? = some 1) (h64:l.length ≤ 64) (G:Con E 1000 22 [.sl f (bs cs) c] (.tup [.sl false (is l) none,.int .i64 0])):Con E 1010 27 [.sl f (bs cs) c] (.tup [.int .u64 (W l),.int .i64 0]):=by
  refine .of (g:=[]) (by simp [AV.pureL,AV.pure]) ?_
  rw [aCall_fn rfl (E_fn27) (by simp [AV.pureL,AV.pure]) (Nat.le_of_ble_eq_true rfl) rfl rfl,body_27,c27]
  have h0:0 < l.length:=List.length_pos_iff.2 hl
  have ix:=atI false none l (l.length - 1) 1 hz
  have e1:((l.length - 1:Nat):Int)=(l.length:Int) - 1:=by omega
  rw [e1] at ix
  have w:=w64 ((l.length:Int) - 1) (by omega) (by omega)
  have b:¬ (64:Int) < (l.length:Int):=by omega
  have b2:¬ 64 < l.length:=by omega
  have p:=is_pure l
  have ln:=is_length l
  have L:=loop (aCall E 1009) (dcall (aRun E 1009)) 1009 1009 l hb h64 (by omega)
  simp [b27,c27,firstReg] at L
  simp [↓s_seq,↓s_reg,↓s_cond,↓s_block,↓s_cons,↓s_consG,s_nil,s_loop,firstReg,s_gt,s_wb,s_val,s_calls,s_cax,s_ret,s_rgx,s_sqn,s_cdb,s_bke,s_ret',s_skip',s_finr,s_fin1,s_fix,s_clean,o_tmp,o_int,l_hit,l_miss,ol_nil,ol_cons,ol_some,x_move,x_assign,x_pick,pk_t,x_bin,bn_s,x_extract,x_callF,cl_no,x_callB,frame0,binA,intOp,resL,resA,results1,sealA,sealLW,AV.pure,AV.pureL,keepT,x_load,ldx,x_indexAddr,iax,newK,genOf,setK,lookK,writeC,readC,conts,TyI.mk1,appendA,copyA,builtinA,AV.cells,AV.scal,gcH,Ty.isAgg,G,ln,h0,w,ix,b,L]
end T15
end
section
open Ab Go TabB T1 T2 T3 T4 T14 T17
namespace T18
theorem loop (q k1 k:Nat) (ys l:List Int) (hb:isBit l) (hl:l.length ≤ 64) (hk:l.length < k) (hq:60 ≤ q)
    (B:∀ i x,l[i]? = some x → Con E 60 40 [.sl false (bs ys) (some ys.length),.int .i64 (l.length:Int),.int .i64 ((i:Nat):Int)] (.bool (x == 1))) :
    aLoop (aCode E (aCall E q) (dcall (aRun E q)) k1 1 fn48 b48) (cleanS 1 ((firstReg b48).bind fn48.head)) k (S ys (l.length:Int) 0 0)=some (.exit 1,⟨[(4,.sl false (bs ys) (some ys.length)),(5,.int .i64 (l.length:Int)),(7,.int .u64 (W l)),(58,.int .i64 (l.length:Int)),(59,.int .i64 (l.length:Int)),(60,.bool false)],[]⟩):=by
  refine loopR (fun j => S ys (l.length:Int) (W (l.take j)) (j:Int)) l.length (by simp [W]) (fun j hj => ?_) ?_ (by simp) hk
  · obtain ⟨x,e⟩:∃ x,l[j]? = some x:=⟨l[j],by simp⟩
    have hx:=hb x (List.mem_of_getElem? e)
    have b:=B j x e
    rw [W_take l j x e]
    have ht:isBit (l.take j):=fun z hz => hb z (List.mem_of_mem_take hz)
    have lt:=W_lt ht
    have lj:(l.take j).length=j:=by rw [List.length_take]; omega
    rw [lj] at lt
    rcases hx with rfl | rfl
    · rw [Int.zero_mul,Int.add_zero]
      exact zero q k1 ys (l.length:Int) _ j (by omega) (by omega) b hq
    · rw [Int.one_mul]
      exact one q k1 ys (l.length:Int) _ j (by omega) (by omega) lt.1 lt.2 b hq
  · rw [List.take_length]
    exact fin q k1 ys (l.length:Int) (W l)
theorem err (f c) (cs:List Int) (G:Con E 100 31 [.sl f (bs cs) c] (.tup [.sl true [] (some 0),.int .i64 0,.int .i64 11])):Con E 1000 48 [.sl f (bs cs) c] (.tup [.int .u64 0,.int .i64 11]):=by
  refine .of (g:=[]) (by simp [AV.pureL,AV.pure]) ?_
  rw [aCall_fn rfl (E_fn48) (by simp [AV.pureL,AV.pure]) (Nat.le_of_ble_eq_true rfl) rfl rfl,body_48,c48]
  simp [↓s_seq,↓s_reg,↓s_cond,↓s_block,↓s_cons,↓s_consG,s_nil,s_gf,s_wb,s_wu,s_val,s_calls,s_cax,s_ret,s_rgx,s_sqn,s_sqr,s_cdb,s_bkr,s_ret',s_finr,s_fin1,s_fix,s_clean,o_tmp,o_int,o_bool,l_hit,l_miss,ol_nil,ol_cons,ol_some,x_move,x_assign,x_pick,pk_t,x_bin,bn_s,x_un,x_extract,x_callF,cl_no,frame0,binA,intOp,resL,resA,results1,sealA,sealLW,AV.pure,AV.pureL,keepT,gcH,unA,G]
theorem none_ (f c) (cs:List Int) (G:Con E 100 31 [.sl f (bs cs) c] (.tup [.sl false [] (some 0),.int .i64 0,.int .i64 0])):Con E 1000 48 [.sl f (bs cs) c] (.tup [.int .u64 0,.int .i64 0]):=by
  refine .of (g:=[]) (by simp [AV.pureL,AV.pure]) ?_
  rw [aCall_fn rfl (E_fn48) (by simp [AV.pureL,AV.pure]) (Nat.le_of_ble_eq_true rfl) rfl rfl,body_48,c48]
  simp [↓s_seq,↓s_reg,↓s_regd,↓s_cond,↓s_block,↓s_cons,↓s_consG,s_nil,s_loop,s_round,s_lpe,firstReg,s_gt,s_gf,s_wb,s_val,s_calls,s_cax,s_ret,s_rgx,s_sqn,s_sqe,s_cdb,s_bkn,s_bke,s_exit,s_ret',s_skip',s_finr,s_fin1,s_fix,s_clean,o_tmp,o_int,o_bool,l_hit,l_miss,ol_nil,ol_cons,ol_some,x_move,x_assign,x_pick,pk_t,pk_f,x_bin,bn_s,x_un,x_extract,x_callF,cl_no,x_callB,frame0,binA,intOp,resL,resA,results1,sealA,sealLW,AV.pure,AV.pureL,keepT,x_load,ldx,x_indexAddr,iax,newK,genOf,setK,lookK,writeC,readC,conts,TyI.mk1,indexAddrA,appendA,copyA,builtinA,AV.cells,AV.scal,gcH,Ty.isAgg,unA,G]
theorem zero_ (f c) (cs ys:List Int) (n:Int) (hn:0 < n) (hm:n < 1000000) (G:Con E 100 31 [.sl f (bs cs) c] (.tup [.sl false (bs ys) (some ys.length),.int .i64 n,.int .i64 0]))
    (B:Con E 60 40 [.sl false (bs ys) (some ys.length),.int .i64 n,.int .i64 (n - 1)] (.bool false)):Con E 1000 48 [.sl f (bs cs) c] (.tup [.int .u64 0,.int .i64 11]):=by
  refine .of (g:=[]) (by simp [AV.pureL,AV.pure]) ?_
  rw [aCall_fn rfl (E_fn48) (by simp [AV.pureL,AV.pure]) (Nat.le_of_ble_eq_true rfl) rfl rfl,body_48,c48]
  have w:=w64 (n - 1) (by omega) (by omega)
  simp [↓s_seq,↓s_reg,↓s_cond,↓s_block,↓s_cons,↓s_consG,s_nil,s_gt,s_wb,s_val,s_calls,s_cax,s_ret,s_rgx,s_sqn,s_sqr,s_cdb,s_bkr,s_ret',s_finr,s_fin1,s_fix,s_clean,o_tmp,o_int,l_hit,l_miss,ol_nil,ol_cons,ol_some,x_move,x_assign,x_pick,pk_t,pk_f,x_bin,bn_s,x_un,x_extract,x_callF,cl_no,frame0,binA,intOp,resL,resA,results1,sealA,sealLW,AV.pure,AV.pureL,keepT,gcH,unA,G,hn,w,B]
theorem big_ (f c) (cs ys:List Int) (n:Int) (hn:64 < n) (hm:n < 1000000) (G:Con E 100 31 [.sl f (bs cs) c] (.tup [.sl false (bs ys) (some ys.length),.int .i64 n,.int .i64 0]))
    (B:Con E 60 40 [.sl false (bs ys) (some ys.length),.int .i64 n,.int .i64 (n - 1)] (.bool true)):Con E 1000 48 [.sl f (bs cs) c] (.tup [.int .u64 0,.int .i64 3]):=by
  refine .of (g:=[]) (by simp [AV.pureL,AV.pure]) ?_
  rw [aCall_fn rfl (E_fn48) (by simp [AV.pureL,AV.pure]) (Nat.le_of_ble_eq_true rfl) rfl rfl,body_48,c48]
  have w:=w64 (n - 1) (by omega) (by omega)
  have h0:0 < n:=by omega
  simp [↓s_seq,↓s_reg,↓s_regd,↓s_cond,↓s_block,↓s_cons,↓s_consG,s_nil,s_gt,s_gf,s_wb,s_val,s_calls,s_cax,s_ret,s_rgx,s_sqn,s_sqr,s_cdb,s_bkr,s_ret',s_finr,s_fin1,s_fix,s_clean,o_tmp,o_int,o_bool,l_hit,l_miss,ol_nil,ol_cons,ol_some,x_move,x_assign,x_pick,pk_t,pk_f,x_bin,bn_s,x_un,x_extract,x_callF,cl_no,x_callB,frame0,binA,intOp,resL,resA,results1,sealA,sealLW,AV.pure,AV.pureL,keepT,x_load,ldx,x_indexAddr,iax,newK,genOf,setK,lookK,writeC,readC,conts,TyI.mk1,indexAddrA,appendA,copyA,builtinA,AV.cells,AV.scal,gcH,Ty.isAgg,unA,G,hn,h0,w,B]
theorem ok_ (f c) (cs ys l:List Int) (hb:isBit l) (h0:0 < l.length) (hl:l.length ≤ 64) (G:Con E 100 31 [.sl f (bs cs) c] (.tup [.sl false (bs ys) (some ys.length),.int .i64 (l.length:Int),.int .i64 0]))
    (B:∀ i x,l[i]? = some x → Con E 60 40 [.sl false (bs ys) (some ys.length),.int .i64 (l.length:Int),.int .i64 ((i:Nat):Int)] (.bool (x == 1))) (hz:l[l.length - 1]? = some 1) :
    Con E 1000 48 [.sl f (bs cs) c] (.tup [.int .u64 (W l),.int .i64 0]):=by
  refine .of (g:=[]) (by simp [AV.pureL,AV.pure]) ?_
  rw [aCall_fn rfl (E_fn48) (by simp [AV.pureL,AV.pure]) (Nat.le_of_ble_eq_true rfl) rfl rfl,body_48,c48]
  have w:=w64 ((l.length:Int) - 1) (by omega) (by omega)
  have B1:=B (l.length - 1) 1 hz
  have e1:((l.length - 1:Nat):Int)=(l.length:Int) - 1:=by omega
  rw [e1] at B1
  have B2:Con E 60 40 [.sl false (bs ys) (some ys.length),.int .i64 (l.length:Int),.int .i64 ((l.length:Int) - 1)] (.bool true):=B1
  have b:¬ (64:Int) < (l.length:Int):=by omega
  have b2:¬ 64 < l.length:=by omega
  have n0:l ≠ []:=List.length_pos_iff.1 h0
  have L:=loop 999 999 999 ys l hb hl (by omega) (by omega) B
  simp [b48,c48,firstReg] at L
  simp [↓s_seq,↓s_reg,↓s_regd,↓s_cond,↓s_block,↓s_cons,↓s_consG,s_nil,s_loop,firstReg,s_gt,s_gf,s_wb,s_val,s_calls,s_cax,s_ret,s_rgx,s_sqn,s_cdb,s_bkn,s_bke,s_ret',s_skip',s_finr,s_fin1,s_fix,s_clean,o_tmp,o_int,o_bool,l_hit,l_miss,ol_nil,ol_cons,ol_some,x_move,x_assign,x_pick,pk_t,pk_f,x_bin,bn_s,x_un,x_extract,x_callF,cl_no,x_callB,frame0,binA,intOp,resL,resA,results1,sealA,sealLW,AV.pure,AV.pureL,keepT,x_load,ldx,x_indexAddr,iax,newK,genOf,setK,lookK,writeC,readC,conts,TyI.mk1,indexAddrA,appendA,copyA,builtinA,AV.cells,AV.scal,gcH,Ty.isAgg,unA,G,h0,w,B2,b,L]
end T18
end
section
open Ab Go TabB
attribute [local simp ↓] s_seq s_reg s_regd s_cond s_block s_cons s_consG
attribute [local simp] s_nil s_loop s_round s_lpn s_lpe s_lpr firstReg s_gt s_gf s_wb s_wu s_val s_valN s_skip s_calls s_callP s_cax lookR flatR pureKs s_ret s_rgx s_sqn s_sqr s_sqe s_cdb s_bkn s_bkr s_bke s_exit s_ret' s_skip' s_finr s_finn s_fin1 s_fix s_clean s_gc0 o_tmp o_int o_bool o_nil o_str o_fn o_nil' l_hit l_miss l_nil ol_nil ol_cons ol_some x_move x_assign x_pick pk_t pk_f x_bin bn_s x_un x_extract x_callF cl_no x_callB x_callBF frzV x_conv cvx convA frame0 binA intOp resL resA results1 sealA sealLW AV.pure AV.pureL keepT x_alloc x_box bxx x_build bdx x_buildSlice bsx x_buildSliceF bsf x_load ldx x_store stx x_slice slx x_fieldAddr x_field x_index ixx x_indexAddr iax x_makeSlice msx x_nilCheck newK genOf setK lookK fillA writeL writeC readC conts TyI.mk1 sliceA boundsA boundsB fitsA numA indexAddrA fieldAddrA partA fieldA indexA appendA copyA builtinA AV.cells AV.scal chunk gcH reach keysT keepK inKs AV.keys AV.keysL Ty.isAgg eq1 eqL convA.go ltI w_u8 w_u32 w_u64 w_i64 w_fdiv w_tdiv w_tmod IntKind.bits unA
section
open Ab Go TabB T1 T2 T3
namespace T19
def tab:List Int:=[0,1,2,2,3,3,3,3,4,4,4,4,4,4,4,4,5,5,5,5,5,5,5,5,5,5,5,5,5,5,5,5,6,6,6,6,6,6,6,6,6,6,6,6,6,6,6,6,6,6,6,6,6,6,6,6,6,6,6,6,6,6,6,6,7,7,7,7,7,7,7,7,7,7,7,7,7,7,7,7,7,7,7,7,7,7,7,7,7,7,7,7,7,7,7,7,7,7,7,7,7,7,7,7,7,7,7,7,7,7,7,7,7,7,7,7,7,7,7,7,7,7,7,7,7,7,7,7,8,8,8,8,8,8,8,8,8,8,8,8,8,8,8,8,8,8,8,8,8,8,8,8,8,8,8,8,8,8,8,8,8,8,8,8,8,8,8,8,8,8,8,8,8,8,8,8,8,8,8,8,8,8,8,8,8,8,8,8,8,8,8,8,8,8,8,8,8,8,8,8,8,8,8,8,8,8,8,8,8,8,8,8,8,8,8,8,8,8,8,8,8,8,8,8,8,8,8,8,8,8,8,8,8,8,8,8,8,8,8,8,8,8,8,8,8,8,8,8,8,8,8,8,8,8,8,8]
def len8 (y:Int):Int:=if y < 1 then 0 else if y < 2 then 1 else if y < 4 then 2 else if y < 8 then 3 else if y < 16 then 4 else if y < 32 then 5 else if y < 64 then 6 else if y < 128 then 7 else 8
theorem tab_all:(List.range 256).all (fun n => decide (tab[n]? = some (len8 (n:Int))))=true:=by decide +kernel
theorem tab_get (y:Int) (h0:0 ≤ y) (h1:y < 256):indexA E 9 (.str tab) (.int .u8 y)=some (.int .u8 (len8 y)):=by
  obtain ⟨n,rfl⟩:=Int.eq_ofNat_of_zero_le h0
  have h:=of_decide_eq_true (List.all_eq_true.1 tab_all n (List.mem_range.2 (by omega)))
  unfold indexA
  simp only [E_ty9]
  rw [if_pos (by omega),Int.toNat_natCast,h]
  rfl
theorem len8_lt (y:Int):0 ≤ len8 y ∧ len8 y ≤ 8:=by unfold len8; split <;> (try split) <;> (try split) <;> (try split) <;> (try split) <;> (try split) <;> (try split) <;> (try split) <;> omega
theorem len000 (w:Int) (h0:0 ≤ w) (c32:¬ 4294967296 ≤ w) (c16:¬ 65536 ≤ w) (c8:¬ 256 ≤ w) (hy:w < 256):Con E 5 49 [.int .u64 w] (.int .i64 (0 + len8 (w))):=by
  refine .of (g:=[]) rfl ?_
  rw [aCall_fn rfl (E_fn49) rfl (Nat.le_of_ble_eq_true rfl) rfl rfl,body_49,c49]
  have y0:0 ≤ w:=by omega
  have tg:=tab_get (w) y0 hy
  unfold tab at tg
  have l:=len8_lt (w)
  have w1:=w64 (len8 (w)) l.1 (by omega)
  have w2:=w64 (0 + len8 (w)) (by omega) (by omega)
  have m:(w) % 256=w:=Int.emod_eq_of_lt y0 hy
  have z:0 + len8 (w)=len8 (w):=by omega
  simp [c32,c16,c8,m,w1,w2,tg,-indexA]
theorem len001 (w:Int) (h0:0 ≤ w) (c32:¬ 4294967296 ≤ w) (c16:¬ 65536 ≤ w) (c8:256 ≤ w) (hy:w / 256 < 256):Con E 5 49 [.int .u64 w] (.int .i64 (8 + len8 (w / 256))):=by
  refine .of (g:=[]) rfl ?_
  rw [aCall_fn rfl (E_fn49) rfl (Nat.le_of_ble_eq_true rfl) rfl rfl,body_49,c49]
  have f8:(w).fdiv 256=w / 256:=by rw [Int.fdiv_eq_ediv_of_nonneg _ (by decide)]
  have y0:0 ≤ w / 256:=by omega
  have tg:=tab_get (w / 256) y0 hy
  unfold tab at tg
  have l:=len8_lt (w / 256)
  have w1:=w64 (len8 (w / 256)) l.1 (by omega)
  have w2:=w64 (8 + len8 (w / 256)) (by omega) (by omega)
  have m:(w / 256) % 256=w / 256:=Int.emod_eq_of_lt y0 hy
  have z:0 + len8 (w / 256)=len8 (w / 256):=by omega
  simp [c32,c16,c8,f8,m,w1,w2,tg,-indexA]
theorem len010 (w:Int) (h0:0 ≤ w) (c32:¬ 4294967296 ≤ w) (c16:65536 ≤ w) (c8:¬ 256 ≤ w / 65536) (hy:w / 65536 < 256):Con E 5 49 [.int .u64 w] (.int .i64 (16 + len8 (w / 65536))):=by
  refine .of (g:=[]) rfl ?_
  rw [aCall_fn rfl (E_fn49) rfl (Nat.le_of_ble_eq_true rfl) rfl rfl,body_49,c49]
  have f16:(w).fdiv 65536=w / 65536:=by rw [Int.fdiv_eq_ediv_of_nonneg _ (by decide)]
  have y0:0 ≤ w / 65536:=by omega
  have tg:=tab_get (w / 65536) y0 hy
  unfold tab at tg
  have l:=len8_lt (w / 65536)
  have w1:=w64 (len8 (w / 65536)) l.1 (by omega)
  have w2:=w64 (16 + len8 (w / 65536)) (by omega) (by omega)
  have m:(w / 65536) % 256=w / 65536:=Int.emod_eq_of_lt y0 hy
  have z:0 + len8 (w / 65536)=len8 (w / 65536):=by omega
  simp [c32,c16,f16,c8,m,w1,w2,tg,-indexA]
theorem len011 (w:Int) (h0:0 ≤ w) (c32:¬ 4294967296 ≤ w) (c16:65536 ≤ w) (c8:256 ≤ w / 65536) (hy:w / 16777216 < 256):Con E 5 49 [.int .u64 w] (.int .i64 (24 + len8 (w / 16777216))):=by
  refine .of (g:=[]) rfl ?_
  rw [aCall_fn rfl (E_fn49) rfl (Nat.le_of_ble_eq_true rfl) rfl rfl,body_49,c49]
  have f16:(w).fdiv 65536=w / 65536:=by rw [Int.fdiv_eq_ediv_of_nonneg _ (by decide)]
  have f8:(w / 65536).fdiv 256=w / 16777216:=by rw [Int.fdiv_eq_ediv_of_nonneg _ (by decide)]; rw [Int.ediv_ediv_of_nonneg (by decide)]; rfl
  have g8:w / 65536 / 256=w / 16777216:=by rw [Int.ediv_ediv_of_nonneg (by decide)]; rfl
  have y0:0 ≤ w / 16777216:=by omega
  have tg:=tab_get (w / 16777216) y0 hy
  unfold tab at tg
  have l:=len8_lt (w / 16777216)
  have w1:=w64 (len8 (w / 16777216)) l.1 (by omega)
  have w2:=w64 (24 + len8 (w / 16777216)) (by omega) (by omega)
  have m:(w / 16777216) % 256=w / 16777216:=Int.emod_eq_of_lt y0 hy
  have z:0 + len8 (w / 16777216)=len8 (w / 16777216):=by omega
  simp [c32,c16,f16,c8,f8,g8,m,w1,w2,tg,-indexA]
theorem len100 (w:Int) (h0:0 ≤ w) (c32:4294967296 ≤ w) (c16:¬ 65536 ≤ w / 4294967296) (c8:¬ 256 ≤ w / 4294967296) (hy:w / 4294967296 < 256):Con E 5 49 [.int .u64 w] (.int .i64 (32 + len8 (w / 4294967296))):=by
  refine .of (g:=[]) rfl ?_
  rw [aCall_fn rfl (E_fn49) rfl (Nat.le_of_ble_eq_true rfl) rfl rfl,body_49,c49]
  have f32:(w).fdiv 4294967296=w / 4294967296:=by rw [Int.fdiv_eq_ediv_of_nonneg _ (by decide)]
  have y0:0 ≤ w / 4294967296:=by omega
  have tg:=tab_get (w / 4294967296) y0 hy
  unfold tab at tg
  have l:=len8_lt (w / 4294967296)
  have w1:=w64 (len8 (w / 4294967296)) l.1 (by omega)
  have w2:=w64 (32 + len8 (w / 4294967296)) (by omega) (by omega)
  have m:(w / 4294967296) % 256=w / 4294967296:=Int.emod_eq_of_lt y0 hy
  have z:0 + len8 (w / 4294967296)=len8 (w / 4294967296):=by omega
  simp [c32,f32,c16,c8,m,w1,w2,tg,-indexA]
theorem len101 (w:Int) (h0:0 ≤ w) (c32:4294967296 ≤ w) (c16:¬ 65536 ≤ w / 4294967296) (c8:256 ≤ w / 4294967296) (hy:w / 1099511627776 < 256):Con E 5 49 [.int .u64 w] (.int .i64 (40 + len8 (w / 1099511627776))):=by
  refine .of (g:=[]) rfl ?_
  rw [aCall_fn rfl (E_fn49) rfl (Nat.le_of_ble_eq_true rfl) rfl rfl,body_49,c49]
  have f32:(w).fdiv 4294967296=w / 4294967296:=by rw [Int.fdiv_eq_ediv_of_nonneg _ (by decide)]
  have f8:(w / 4294967296).fdiv 256=w / 1099511627776:=by rw [Int.fdiv_eq_ediv_of_nonneg _ (by decide)]; rw [Int.ediv_ediv_of_nonneg (by decide)]; rfl
  have g8:w / 4294967296 / 256=w / 1099511627776:=by rw [Int.ediv_ediv_of_nonneg (by decide)]; rfl
  have y0:0 ≤ w / 1099511627776:=by omega
  have tg:=tab_get (w / 1099511627776) y0 hy
  unfold tab at tg
  have l:=len8_lt (w / 1099511627776)
  have w1:=w64 (len8 (w / 1099511627776)) l.1 (by omega)
  have w2:=w64 (40 + len8 (w / 1099511627776)) (by omega) (by omega)
  have m:(w / 1099511627776) % 256=w / 1099511627776:=Int.emod_eq_of_lt y0 hy
  have z:0 + len8 (w / 1099511627776)=len8 (w / 1099511627776):=by omega
  simp [c32,f32,c16,c8,f8,g8,m,w1,w2,tg,-indexA]
theorem len110 (w:Int) (h0:0 ≤ w) (c32:4294967296 ≤ w) (c16:65536 ≤ w / 4294967296) (c8:¬ 256 ≤ w / 281474976710656) (hy:w / 281474976710656 < 256):Con E 5 49 [.int .u64 w] (.int .i64 (48 + len8 (w / 281474976710656))):=by
  refine .of (g:=[]) rfl ?_
  rw [aCall_fn rfl (E_fn49) rfl (Nat.le_of_ble_eq_true rfl) rfl rfl,body_49,c49]
  have f32:(w).fdiv 4294967296=w / 4294967296:=by rw [Int.fdiv_eq_ediv_of_nonneg _ (by decide)]
  have f16:(w / 4294967296).fdiv 65536=w / 281474976710656:=by rw [Int.fdiv_eq_ediv_of_nonneg _ (by decide)]; rw [Int.ediv_ediv_of_nonneg (by decide)]; rfl
  have g16:w / 4294967296 / 65536=w / 281474976710656:=by rw [Int.ediv_ediv_of_nonneg (by decide)]; rfl
  have y0:0 ≤ w / 281474976710656:=by omega
  have tg:=tab_get (w / 281474976710656) y0 hy
  unfold tab at tg
  have l:=len8_lt (w / 281474976710656)
  have w1:=w64 (len8 (w / 281474976710656)) l.1 (by omega)
  have w2:=w64 (48 + len8 (w / 281474976710656)) (by omega) (by omega)
  have m:(w / 281474976710656) % 256=w / 281474976710656:=Int.emod_eq_of_lt y0 hy
  have z:0 + len8 (w / 281474976710656)=len8 (w / 281474976710656):=by omega
  simp [c32,f32,c16,f16,g16,c8,m,w1,w2,tg,-indexA]
theorem len111 (w:Int) (h0:0 ≤ w) (c32:4294967296 ≤ w) (c16:65536 ≤ w / 4294967296) (c8:256 ≤ w / 281474976710656) (hy:w / 72057594037927936 < 256):Con E 5 49 [.int .u64 w] (.int .i64 (56 + len8 (w / 72057594037927936))):=by
  refine .of (g:=[]) rfl ?_
  rw [aCall_fn rfl (E_fn49) rfl (Nat.le_of_ble_eq_true rfl) rfl rfl,body_49,c49]
  have f32:(w).fdiv 4294967296=w / 4294967296:=by rw [Int.fdiv_eq_ediv_of_nonneg _ (by decide)]
  have f16:(w / 4294967296).fdiv 65536=w / 281474976710656:=by rw [Int.fdiv_eq_ediv_of_nonneg _ (by decide)]; rw [Int.ediv_ediv_of_nonneg (by decide)]; rfl
  have g16:w / 4294967296 / 65536=w / 281474976710656:=by rw [Int.ediv_ediv_of_nonneg (by decide)]; rfl
  have f8:(w / 281474976710656).fdiv 256=w / 72057594037927936:=by rw [Int.fdiv_eq_ediv_of_nonneg _ (by decide)]; rw [Int.ediv_ediv_of_nonneg (by decide)]; rfl
  have g8:w / 281474976710656 / 256=w / 72057594037927936:=by rw [Int.ediv_ediv_of_nonneg (by decide)]; rfl
  have y0:0 ≤ w / 72057594037927936:=by omega
  have tg:=tab_get (w / 72057594037927936) y0 hy
  unfold tab at tg
  have l:=len8_lt (w / 72057594037927936)
  have w1:=w64 (len8 (w / 72057594037927936)) l.1 (by omega)
  have w2:=w64 (56 + len8 (w / 72057594037927936)) (by omega) (by omega)
  have m:(w / 72057594037927936) % 256=w / 72057594037927936:=Int.emod_eq_of_lt y0 hy
  have z:0 + len8 (w / 72057594037927936)=len8 (w / 72057594037927936):=by omega
  simp [c32,f32,c16,f16,g16,c8,f8,g8,m,w1,w2,tg,-indexA]
end T19
end
end
section
open Ab Go TabB T1 T2 T3 T19
namespace T20
theorem len1 (w:Int) (r:Nat) (r0:1 ≤ r) (r1:r ≤ 16) (lo:2 ^ (r - 1) ≤ w) (hi:w < 2 ^ r):Con E 5 49 [.int .u64 w] (.int .i64 (r:Int)):=by
  have hr:r=1 ∨ r=2 ∨ r=3 ∨ r=4 ∨ r=5 ∨ r=6 ∨ r=7 ∨ r=8 ∨ r=9 ∨ r=10 ∨ r=11 ∨ r=12 ∨ r=13 ∨ r=14 ∨ r=15 ∨ r=16:=by omega
  rcases hr with rfl | rfl | rfl | rfl | rfl | rfl | rfl | rfl | rfl | rfl | rfl | rfl | rfl | rfl | rfl | rfl
  · simp only [Nat.reduceSub,Int.reducePow] at lo hi
    have q:=len000 w (by omega) (by omega) (by omega) (by omega) (by omega)
    have e:len8 (w)=1:=by unfold len8; rw [if_neg (by omega),if_pos (by omega)]
    rw [e] at q
    exact q
  · simp only [Nat.reduceSub,Int.reducePow] at lo hi
    have q:=len000 w (by omega) (by omega) (by omega) (by omega) (by omega)
    have e:len8 (w)=2:=by unfold len8; rw [if_neg (by omega),if_neg (by omega),if_pos (by omega)]
    rw [e] at q
    exact q
  · simp only [Nat.reduceSub,Int.reducePow] at lo hi
    have q:=len000 w (by omega) (by omega) (by omega) (by omega) (by omega)
    have e:len8 (w)=3:=by unfold len8; rw [if_neg (by omega),if_neg (by omega),if_neg (by omega),if_pos (by omega)]
    rw [e] at q
    exact q
  · simp only [Nat.reduceSub,Int.reducePow] at lo hi
    have q:=len000 w (by omega) (by omega) (by omega) (by omega) (by omega)
    have e:len8 (w)=4:=by unfold len8; rw [if_neg (by omega),if_neg (by omega),if_neg (by omega),if_neg (by omega),if_pos (by omega)]
    rw [e] at q
    exact q
  · simp only [Nat.reduceSub,Int.reducePow] at lo hi
    have q:=len000 w (by omega) (by omega) (by omega) (by omega) (by omega)
    have e:len8 (w)=5:=by unfold len8; rw [if_neg (by omega),if_neg (by omega),if_neg (by omega),if_neg (by omega),if_neg (by omega),if_pos (by omega)]
    rw [e] at q
    exact q
  · simp only [Nat.reduceSub,Int.reducePow] at lo hi
    have q:=len000 w (by omega) (by omega) (by omega) (by omega) (by omega)
    have e:len8 (w)=6:=by unfold len8; rw [if_neg (by omega),if_neg (by omega),if_neg (by omega),if_neg (by omega),if_neg (by omega),if_neg (by omega),if_pos (by omega)]
    rw [e] at q
    exact q
  · simp only [Nat.reduceSub,Int.reducePow] at lo hi
    have q:=len000 w (by omega) (by omega) (by omega) (by omega) (by omega)
    have e:len8 (w)=7:=by unfold len8; rw [if_neg (by omega),if_neg (by omega),if_neg (by omega),if_neg (by omega),if_neg (by omega),if_neg (by omega),if_neg (by omega),if_pos (by omega)]
    rw [e] at q
    exact q
  · simp only [Nat.reduceSub,Int.reducePow] at lo hi
    have q:=len000 w (by omega) (by omega) (by omega) (by omega) (by omega)
    have e:len8 (w)=8:=by unfold len8; rw [if_neg (by omega),if_neg (by omega),if_neg (by omega),if_neg (by omega),if_neg (by omega),if_neg (by omega),if_neg (by omega),if_neg (by omega)]
    rw [e] at q
    exact q
  · simp only [Nat.reduceSub,Int.reducePow] at lo hi
    have q:=len001 w (by omega) (by omega) (by omega) (by omega) (by omega)
    have e:len8 (w / 256)=1:=by unfold len8; rw [if_neg (by omega),if_pos (by omega)]
    rw [e] at q
    exact q
  · simp only [Nat.reduceSub,Int.reducePow] at lo hi
    have q:=len001 w (by omega) (by omega) (by omega) (by omega) (by omega)
    have e:len8 (w / 256)=2:=by unfold len8; rw [if_neg (by omega),if_neg (by omega),if_pos (by omega)]
    rw [e] at q
    exact q
  · simp only [Nat.reduceSub,Int.reducePow] at lo hi
    have q:=len001 w (by omega) (by omega) (by omega) (by omega) (by omega)
    have e:len8 (w / 256)=3:=by unfold len8; rw [if_neg (by omega),if_neg (by omega),if_neg (by omega),if_pos (by omega)]
    rw [e] at q
    exact q
  · simp only [Nat.reduceSub,Int.reducePow] at lo hi
    have q:=len001 w (by omega) (by omega) (by omega) (by omega) (by omega)
    have e:len8 (w / 256)=4:=by unfold len8; rw [if_neg (by omega),if_neg (by omega),if_neg (by omega),if_neg (by omega),if_pos (by omega)]
    rw [e] at q
    exact q
  · simp only [Nat.reduceSub,Int.reducePow] at lo hi
    have q:=len001 w (by omega) (by omega) (by omega) (by omega) (by omega)
    have e:len8 (w / 256)=5:=by unfold len8; rw [if_neg (by omega),if_neg (by omega),if_neg (by omega),if_neg (by omega),if_neg (by omega),if_pos (by omega)]
    rw [e] at q
    exact q
  · simp only [Nat.reduceSub,Int.reducePow] at lo hi
    have q:=len001 w (by omega) (by omega) (by omega) (by omega) (by omega)
    have e:len8 (w / 256)=6:=by unfold len8; rw [if_neg (by omega),if_neg (by omega),if_neg (by omega),if_neg (by omega),if_neg (by omega),if_neg (by omega),if_pos (by omega)]
    rw [e] at q
    exact q
  · simp only [Nat.reduceSub,Int.reducePow] at lo hi
    have q:=len001 w (by omega) (by omega) (by omega) (by omega) (by omega)
    have e:len8 (w / 256)=7:=by unfold len8; rw [if_neg (by omega),if_neg (by omega),if_neg (by omega),if_neg (by omega),if_neg (by omega),if_neg (by omega),if_neg (by omega),if_pos (by omega)]
    rw [e] at q
    exact q
  · simp only [Nat.reduceSub,Int.reducePow] at lo hi
    have q:=len001 w (by omega) (by omega) (by omega) (by omega) (by omega)
    have e:len8 (w / 256)=8:=by unfold len8; rw [if_neg (by omega),if_neg (by omega),if_neg (by omega),if_neg (by omega),if_neg (by omega),if_neg (by omega),if_neg (by omega),if_neg (by omega)]
    rw [e] at q
    exact q
theorem len17 (w:Int) (r:Nat) (r0:17 ≤ r) (r1:r ≤ 32) (lo:2 ^ (r - 1) ≤ w) (hi:w < 2 ^ r):Con E 5 49 [.int .u64 w] (.int .i64 (r:Int)):=by
  have hr:r=17 ∨ r=18 ∨ r=19 ∨ r=20 ∨ r=21 ∨ r=22 ∨ r=23 ∨ r=24 ∨ r=25 ∨ r=26 ∨ r=27 ∨ r=28 ∨ r=29 ∨ r=30 ∨ r=31 ∨ r=32:=by omega
  rcases hr with rfl | rfl | rfl | rfl | rfl | rfl | rfl | rfl | rfl | rfl | rfl | rfl | rfl | rfl | rfl | rfl
  · simp only [Nat.reduceSub,Int.reducePow] at lo hi
    have q:=len010 w (by omega) (by omega) (by omega) (by omega) (by omega)
    have e:len8 (w / 65536)=1:=by unfold len8; rw [if_neg (by omega),if_pos (by omega)]
    rw [e] at q
    exact q
  · simp only [Nat.reduceSub,Int.reducePow] at lo hi
    have q:=len010 w (by omega) (by omega) (by omega) (by omega) (by omega)
    have e:len8 (w / 65536)=2:=by unfold len8; rw [if_neg (by omega),if_neg (by omega),if_pos (by omega)]
    rw [e] at q
    exact q
  · simp only [Nat.reduceSub,Int.reducePow] at lo hi
    have q:=len010 w (by omega) (by omega) (by omega) (by omega) (by omega)
    have e:len8 (w / 65536)=3:=by unfold len8; rw [if_neg (by omega),if_neg (by omega),if_neg (by omega),if_pos (by omega)]
    rw [e] at q
    exact q
  · simp only [Nat.reduceSub,Int.reducePow] at lo hi
    have q:=len010 w (by omega) (by omega) (by omega) (by omega) (by omega)
    have e:len8 (w / 65536)=4:=by unfold len8; rw [if_neg (by omega),if_neg (by omega),if_neg (by omega),if_neg (by omega),if_pos (by omega)]
    rw [e] at q
    exact q
  · simp only [Nat.reduceSub,Int.reducePow] at lo hi
    have q:=len010 w (by omega) (by omega) (by omega) (by omega) (by omega)
    have e:len8 (w / 65536)=5:=by unfold len8; rw [if_neg (by omega),if_neg (by omega),if_neg (by omega),if_neg (by omega),if_neg (by omega),if_pos (by omega)]
    rw [e] at q
    exact q
  · simp only [Nat.reduceSub,Int.reducePow] at lo hi
    have q:=len010 w (by omega) (by omega) (by omega) (by omega) (by omega)
    have e:len8 (w / 65536)=6:=by unfold len8; rw [if_neg (by omega),if_neg (by omega),if_neg (by omega),if_neg (by omega),if_neg (by omega),if_neg (by omega),if_pos (by omega)]
    rw [e] at q
    exact q
  · simp only [Nat.reduceSub,Int.reducePow] at lo hi
    have q:=len010 w (by omega) (by omega) (by omega) (by omega) (by omega)
    have e:len8 (w / 65536)=7:=by unfold len8; rw [if_neg (by omega),if_neg (by omega),if_neg (by omega),if_neg (by omega),if_neg (by omega),if_neg (by omega),if_neg (by omega),if_pos (by omega)]
    rw [e] at q
    exact q
  · simp only [Nat.reduceSub,Int.reducePow] at lo hi
    have q:=len010 w (by omega) (by omega) (by omega) (by omega) (by omega)
    have e:len8 (w / 65536)=8:=by unfold len8; rw [if_neg (by omega),if_neg (by omega),if_neg (by omega),if_neg (by omega),if_neg (by omega),if_neg (by omega),if_neg (by omega),if_neg (by omega)]
    rw [e] at q
    exact q
  · simp only [Nat.reduceSub,Int.reducePow] at lo hi
    have q:=len011 w (by omega) (by omega) (by omega) (by omega) (by omega)
    have e:len8 (w / 16777216)=1:=by unfold len8; rw [if_neg (by omega),if_pos (by omega)]
    rw [e] at q
    exact q
  · simp only [Nat.reduceSub,Int.reducePow] at lo hi
    have q:=len011 w (by omega) (by omega) (by omega) (by omega) (by omega)
    have e:len8 (w / 16777216)=2:=by unfold len8; rw [if_neg (by omega),if_neg (by omega),if_pos (by omega)]
    rw [e] at q
    exact q
  · simp only [Nat.reduceSub,Int.reducePow] at lo hi
    have q:=len011 w (by omega) (by omega) (by omega) (by omega) (by omega)
    have e:len8 (w / 16777216)=3:=by unfold len8; rw [if_neg (by omega),if_neg (by omega),if_neg (by omega),if_pos (by omega)]
    rw [e] at q
    exact q
  · simp only [Nat.reduceSub,Int.reducePow] at lo hi
    have q:=len011 w (by omega) (by omega) (by omega) (by omega) (by omega)
    have e:len8 (w / 16777216)=4:=by unfold len8; rw [if_neg (by omega),if_neg (by omega),if_neg (by omega),if_neg (by omega),if_pos (by omega)]
    rw [e] at q
    exact q
  · simp only [Nat.reduceSub,Int.reducePow] at lo hi
    have q:=len011 w (by omega) (by omega) (by omega) (by omega) (by omega)
    have e:len8 (w / 16777216)=5:=by unfold len8; rw [if_neg (by omega),if_neg (by omega),if_neg (by omega),if_neg (by omega),if_neg (by omega),if_pos (by omega)]
    rw [e] at q
    exact q
  · simp only [Nat.reduceSub,Int.reducePow] at lo hi
    have q:=len011 w (by omega) (by omega) (by omega) (by omega) (by omega)
    have e:len8 (w / 16777216)=6:=by unfold len8; rw [if_neg (by omega),if_neg (by omega),if_neg (by omega),if_neg (by omega),if_neg (by omega),if_neg (by omega),if_pos (by omega)]
    rw [e] at q
    exact q
  · simp only [Nat.reduceSub,Int.reducePow] at lo hi
    have q:=len011 w (by omega) (by omega) (by omega) (by omega) (by omega)
    have e:len8 (w / 16777216)=7:=by unfold len8; rw [if_neg (by omega),if_neg (by omega),if_neg (by omega),if_neg (by omega),if_neg (by omega),if_neg (by omega),if_neg (by omega),if_pos (by omega)]
    rw [e] at q
    exact q
  · simp only [Nat.reduceSub,Int.reducePow] at lo hi
    have q:=len011 w (by omega) (by omega) (by omega) (by omega) (by omega)
    have e:len8 (w / 16777216)=8:=by unfold len8; rw [if_neg (by omega),if_neg (by omega),if_neg (by omega),if_neg (by omega),if_neg (by omega),if_neg (by omega),if_neg (by omega),if_neg (by omega)]
    rw [e] at q
    exact q
theorem len33 (w:Int) (r:Nat) (r0:33 ≤ r) (r1:r ≤ 48) (lo:2 ^ (r - 1) ≤ w) (hi:w < 2 ^ r):Con E 5 49 [.int .u64 w] (.int .i64 (r:Int)):=by
  have hr:r=33 ∨ r=34 ∨ r=35 ∨ r=36 ∨ r=37 ∨ r=38 ∨ r=39 ∨ r=40 ∨ r=41 ∨ r=42 ∨ r=43 ∨ r=44 ∨ r=45 ∨ r=46 ∨ r=47 ∨ r=48:=by omega
  rcases hr with rfl | rfl | rfl | rfl | rfl | rfl | rfl | rfl | rfl | rfl | rfl | rfl | rfl | rfl | rfl | rfl
  · simp only [Nat.reduceSub,Int.reducePow] at lo hi
    have q:=len100 w (by omega) (by omega) (by omega) (by omega) (by omega)
    have e:len8 (w / 4294967296)=1:=by unfold len8; rw [if_neg (by omega),if_pos (by omega)]
    rw [e] at q
    exact q
  · simp only [Nat.reduceSub,Int.reducePow] at lo hi
    have q:=len100 w (by omega) (by omega) (by omega) (by omega) (by omega)
    have e:len8 (w / 4294967296)=2:=by unfold len8; rw [if_neg (by omega),if_neg (by omega),if_pos (by omega)]
    rw [e] at q
    exact q
  · simp only [Nat.reduceSub,Int.reducePow] at lo hi
    have q:=len100 w (by omega) (by omega) (by omega) (by omega) (by omega)
    have e:len8 (w / 4294967296)=3:=by unfold len8; rw [if_neg (by omega),if_neg (by omega),if_neg (by omega),if_pos (by omega)]
    rw [e] at q
    exact q
  · simp only [Nat.reduceSub,Int.reducePow] at lo hi
    have q:=len100 w (by omega) (by omega) (by omega) (by omega) (by omega)
    have e:len8 (w / 4294967296)=4:=by unfold len8; rw [if_neg (by omega),if_neg (by omega),if_neg (by omega),if_neg (by omega),if_pos (by omega)]
    rw [e] at q
    exact q
  · simp only [Nat.reduceSub,Int.reducePow] at lo hi
    have q:=len100 w (by omega) (by omega) (by omega) (by omega) (by omega)
    have e:len8 (w / 4294967296)=5:=by unfold len8; rw [if_neg (by omega),if_neg (by omega),if_neg (by omega),if_neg (by omega),if_neg (by omega),if_pos (by omega)]
    rw [e] at q
    exact q
  · simp only [Nat.reduceSub,Int.reducePow] at lo hi
    have q:=len100 w (by omega) (by omega) (by omega) (by omega) (by omega)
    have e:len8 (w / 4294967296)=6:=by unfold len8; rw [if_neg (by omega),if_neg (by omega),if_neg (by omega),if_neg (by omega),if_neg (by omega),if_neg (by omega),if_pos (by omega)]
    rw [e] at q
    exact q
  · simp only [Nat.reduceSub,Int.reducePow] at lo hi
    have q:=len100 w (by omega) (by omega) (by omega) (by omega) (by omega)
    have e:len8 (w / 4294967296)=7:=by unfold len8; rw [if_neg (by omega),if_neg (by omega),if_neg (by omega),if_neg (by omega),if_neg (by omega),if_neg (by omega),if_neg (by omega),if_pos (by omega)]
    rw [e] at q
    exact q
  · simp only [Nat.reduceSub,Int.reducePow] at lo hi
    have q:=len100 w (by omega) (by omega) (by omega) (by omega) (by omega)
    have e:len8 (w / 4294967296)=8:=by unfold len8; rw [if_neg (by omega),if_neg (by omega),if_neg (by omega),if_neg (by omega),if_neg (by omega),if_neg (by omega),if_neg (by omega),if_neg (by omega)]
    rw [e] at q
    exact q
  · simp only [Nat.reduceSub,Int.reducePow] at lo hi
    have q:=len101 w (by omega) (by omega) (by omega) (by omega) (by omega)
    have e:len8 (w / 1099511627776)=1:=by unfold len8; rw [if_neg (by omega),if_pos (by omega)]
    rw [e] at q
    exact q
  · simp only [Nat.reduceSub,Int.reducePow] at lo hi
    have q:=len101 w (by omega) (by omega) (by omega) (by omega) (by omega)
    have e:len8 (w / 1099511627776)=2:=by unfold len8; rw [if_neg (by omega),if_neg (by omega),if_pos (by omega)]
    rw [e] at q
    exact q
  · simp only [Nat.reduceSub,Int.reducePow] at lo hi
    have q:=len101 w (by omega) (by omega) (by omega) (by omega) (by omega)
    have e:len8 (w / 1099511627776)=3:=by unfold len8; rw [if_neg (by omega),if_neg (by omega),if_neg (by omega),if_pos (by omega)]
    rw [e] at q
    exact q
  · simp only [Nat.reduceSub,Int.reducePow] at lo hi
    have q:=len101 w (by omega) (by omega) (by omega) (by omega) (by omega)
    have e:len8 (w / 1099511627776)=4:=by unfold len8; rw [if_neg (by omega),if_neg (by omega),if_neg (by omega),if_neg (by omega),if_pos (by omega)]
    rw [e] at q
    exact q
  · simp only [Nat.reduceSub,Int.reducePow] at lo hi
    have q:=len101 w (by omega) (by omega) (by omega) (by omega) (by omega)
    have e:len8 (w / 1099511627776)=5:=by unfold len8; rw [if_neg (by omega),if_neg (by omega),if_neg (by omega),if_neg (by omega),if_neg (by omega),if_pos (by omega)]
    rw [e] at q
    exact q
  · simp only [Nat.reduceSub,Int.reducePow] at lo hi
    have q:=len101 w (by omega) (by omega) (by omega) (by omega) (by omega)
    have e:len8 (w / 1099511627776)=6:=by unfold len8; rw [if_neg (by omega),if_neg (by omega),if_neg (by omega),if_neg (by omega),if_neg (by omega),if_neg (by omega),if_pos (by omega)]
    rw [e] at q
    exact q
  · simp only [Nat.reduceSub,Int.reducePow] at lo hi
    have q:=len101 w (by omega) (by omega) (by omega) (by omega) (by omega)
    have e:len8 (w / 1099511627776)=7:=by unfold len8; rw [if_neg (by omega),if_neg (by omega),if_neg (by omega),if_neg (by omega),if_neg (by omega),if_neg (by omega),if_neg (by omega),if_pos (by omega)]
    rw [e] at q
    exact q
  · simp only [Nat.reduceSub,Int.reducePow] at lo hi
    have q:=len101 w (by omega) (by omega) (by omega) (by omega) (by omega)
    have e:len8 (w / 1099511627776)=8:=by unfold len8; rw [if_neg (by omega),if_neg (by omega),if_neg (by omega),if_neg (by omega),if_neg (by omega),if_neg (by omega),if_neg (by omega),if_neg (by omega)]
    rw [e] at q
    exact q
theorem len49 (w:Int) (r:Nat) (r0:49 ≤ r) (r1:r ≤ 64) (lo:2 ^ (r - 1) ≤ w) (hi:w < 2 ^ r):Con E 5 49 [.int .u64 w] (.int .i64 (r:Int)):=by
  have hr:r=49 ∨ r=50 ∨ r=51 ∨ r=52 ∨ r=53 ∨ r=54 ∨ r=55 ∨ r=56 ∨ r=57 ∨ r=58 ∨ r=59 ∨ r=60 ∨ r=61 ∨ r=62 ∨ r=63 ∨ r=64:=by omega
  rcases hr with rfl | rfl | rfl | rfl | rfl | rfl | rfl | rfl | rfl | rfl | rfl | rfl | rfl | rfl | rfl | rfl
  · simp only [Nat.reduceSub,Int.reducePow] at lo hi
    have q:=len110 w (by omega) (by omega) (by omega) (by omega) (by omega)
    have e:len8 (w / 281474976710656)=1:=by unfold len8; rw [if_neg (by omega),if_pos (by omega)]
    rw [e] at q
    exact q
  · simp only [Nat.reduceSub,Int.reducePow] at lo hi
    have q:=len110 w (by omega) (by omega) (by omega) (by omega) (by omega)
    have e:len8 (w / 281474976710656)=2:=by unfold len8; rw [if_neg (by omega),if_neg (by omega),if_pos (by omega)]
    rw [e] at q
    exact q
  · simp only [Nat.reduceSub,Int.reducePow] at lo hi
    have q:=len110 w (by omega) (by omega) (by omega) (by omega) (by omega)
    have e:len8 (w / 281474976710656)=3:=by unfold len8; rw [if_neg (by omega),if_neg (by omega),if_neg (by omega),if_pos (by omega)]
    rw [e] at q
    exact q
  · simp only [Nat.reduceSub,Int.reducePow] at lo hi
    have q:=len110 w (by omega) (by omega) (by omega) (by omega) (by omega)
    have e:len8 (w / 281474976710656)=4:=by unfold len8; rw [if_neg (by omega),if_neg (by omega),if_neg (by omega),if_neg (by omega),if_pos (by omega)]
    rw [e] at q
    exact q
  · simp only [Nat.reduceSub,Int.reducePow] at lo hi
    have q:=len110 w (by omega) (by omega) (by omega) (by omega) (by omega)
    have e:len8 (w / 281474976710656)=5:=by unfold len8; rw [if_neg (by omega),if_neg (by omega),if_neg (by omega),if_neg (by omega),if_neg (by omega),if_pos (by omega)]
    rw [e] at q
    exact q
  · simp only [Nat.reduceSub,Int.reducePow] at lo hi
    have q:=len110 w (by omega) (by omega) (by omega) (by omega) (by omega)
    have e:len8 (w / 281474976710656)=6:=by unfold len8; rw [if_neg (by omega),if_neg (by omega),if_neg (by omega),if_neg (by omega),if_neg (by omega),if_neg (by omega),if_pos (by omega)]
    rw [e] at q
    exact q
  · simp only [Nat.reduceSub,Int.reducePow] at lo hi
    have q:=len110 w (by omega) (by omega) (by omega) (by omega) (by omega)
    have e:len8 (w / 281474976710656)=7:=by unfold len8; rw [if_neg (by omega),if_neg (by omega),if_neg (by omega),if_neg (by omega),if_neg (by omega),if_neg (by omega),if_neg (by omega),if_pos (by omega)]
    rw [e] at q
    exact q
  · simp only [Nat.reduceSub,Int.reducePow] at lo hi
    have q:=len110 w (by omega) (by omega) (by omega) (by omega) (by omega)
    have e:len8 (w / 281474976710656)=8:=by unfold len8; rw [if_neg (by omega),if_neg (by omega),if_neg (by omega),if_neg (by omega),if_neg (by omega),if_neg (by omega),if_neg (by omega),if_neg (by omega)]
    rw [e] at q
    exact q
  · simp only [Nat.reduceSub,Int.reducePow] at lo hi
    have q:=len111 w (by omega) (by omega) (by omega) (by omega) (by omega)
    have e:len8 (w / 72057594037927936)=1:=by unfold len8; rw [if_neg (by omega),if_pos (by omega)]
    rw [e] at q
    exact q
  · simp only [Nat.reduceSub,Int.reducePow] at lo hi
    have q:=len111 w (by omega) (by omega) (by omega) (by omega) (by omega)
    have e:len8 (w / 72057594037927936)=2:=by unfold len8; rw [if_neg (by omega),if_neg (by omega),if_pos (by omega)]
    rw [e] at q
    exact q
  · simp only [Nat.reduceSub,Int.reducePow] at lo hi
    have q:=len111 w (by omega) (by omega) (by omega) (by omega) (by omega)
    have e:len8 (w / 72057594037927936)=3:=by unfold len8; rw [if_neg (by omega),if_neg (by omega),if_neg (by omega),if_pos (by omega)]
    rw [e] at q
    exact q
  · simp only [Nat.reduceSub,Int.reducePow] at lo hi
    have q:=len111 w (by omega) (by omega) (by omega) (by omega) (by omega)
    have e:len8 (w / 72057594037927936)=4:=by unfold len8; rw [if_neg (by omega),if_neg (by omega),if_neg (by omega),if_neg (by omega),if_pos (by omega)]
    rw [e] at q
    exact q
  · simp only [Nat.reduceSub,Int.reducePow] at lo hi
    have q:=len111 w (by omega) (by omega) (by omega) (by omega) (by omega)
    have e:len8 (w / 72057594037927936)=5:=by unfold len8; rw [if_neg (by omega),if_neg (by omega),if_neg (by omega),if_neg (by omega),if_neg (by omega),if_pos (by omega)]
    rw [e] at q
    exact q
  · simp only [Nat.reduceSub,Int.reducePow] at lo hi
    have q:=len111 w (by omega) (by omega) (by omega) (by omega) (by omega)
    have e:len8 (w / 72057594037927936)=6:=by unfold len8; rw [if_neg (by omega),if_neg (by omega),if_neg (by omega),if_neg (by omega),if_neg (by omega),if_neg (by omega),if_pos (by omega)]
    rw [e] at q
    exact q
  · simp only [Nat.reduceSub,Int.reducePow] at lo hi
    have q:=len111 w (by omega) (by omega) (by omega) (by omega) (by omega)
    have e:len8 (w / 72057594037927936)=7:=by unfold len8; rw [if_neg (by omega),if_neg (by omega),if_neg (by omega),if_neg (by omega),if_neg (by omega),if_neg (by omega),if_neg (by omega),if_pos (by omega)]
    rw [e] at q
    exact q
  · simp only [Nat.reduceSub,Int.reducePow] at lo hi
    have q:=len111 w (by omega) (by omega) (by omega) (by omega) (by omega)
    have e:len8 (w / 72057594037927936)=8:=by unfold len8; rw [if_neg (by omega),if_neg (by omega),if_neg (by omega),if_neg (by omega),if_neg (by omega),if_neg (by omega),if_neg (by omega),if_neg (by omega)]
    rw [e] at q
    exact q
theorem len64 (w:Int) (r:Nat) (r0:1 ≤ r) (r1:r ≤ 64) (lo:2 ^ (r - 1) ≤ w) (hi:w < 2 ^ r):Con E 5 49 [.int .u64 w] (.int .i64 (r:Int)):=by
  by_cases a:r ≤ 16
  · exact len1 w r r0 a lo hi
  by_cases b:r ≤ 32
  · exact len17 w r (by omega) b lo hi
  by_cases c:r ≤ 48
  · exact len33 w r (by omega) c lo hi
  · exact len49 w r (by omega) r1 lo hi
end T20
end
section
open Ab Go TabB T1 T2 T3 T14
namespace T21
def b29:Code:=match c29 with
  | .seq _ (.seq _ (.seq _ (.seq (.seq _ (.block _ (.loop b))) _))) => b
  | _ => .skip
def andU (a b:Int):Int:=IntKind.u64.wrap ((BitVec.ofInt 64 a &&& BitVec.ofInt 64 b).toNat:Nat)
theorem i_andU (a b:Int):intOp .and .u64 a b=some (.int .u64 (andU a b)):=rfl
def or8 (a b:Int):Int:=IntKind.u8.wrap ((BitVec.ofInt 8 a ||| BitVec.ofInt 8 b).toNat:Nat)
theorem i_or8 (a b:Int):intOp .or .u8 a b=some (.int .u8 (or8 a b)):=rfl
abbrev S (w n:Int) (L:Nat) (ys:List Int) (k:Int):St:=⟨[(0,.int .u64 w),(3,.int .i64 n),(4,.ref (1,11,0) 0 L (some L)),(12,.int .i64 n),(13,.int .i64 k)],[((1,11,0),⟨bs ys,true,true,true,1,false⟩)]⟩
theorem zero (call sc) (k1:Nat) (w n:Int) (L:Nat) (ys:List Int) (k:Nat) (hk:k < 64) (hn:(k:Int) < n) (w0:0 ≤ w) (b:andU (w / 2 ^ k) 1=0) :
    aCode E call sc k1 1 fn29 b29 (cleanS 1 ((firstReg b29).bind fn29.head) (S w n L ys (k:Int)))=some (.normal,S w n L ys ((k + 1:Nat):Int)):=by
  have kk:=bs_keys ys
  have k0:¬ (k:Int) < 0:=by omega
  have mk:min k 64=k:=by omega
  have fd:w.fdiv (2 ^ k)=w / 2 ^ k:=Int.fdiv_eq_ediv_of_nonneg w (Int.le_of_lt (Int.pow_pos (by decide)))
  have w5:=w64 ((k:Int) + 1) (by omega) (by omega)
  have e:((k + 1:Nat):Int)=(k:Int) + 1:=by omega
  simp [b29,c29,↓s_seq,↓s_reg,↓s_cond,↓s_block,↓s_cons,s_nil,firstReg,s_val,s_rgx,s_sqn,s_cdb,s_bkn,s_skip',s_clean,o_tmp,o_int,l_hit,l_miss,x_move,x_assign,x_bin,bn_s,binA,intOp,keepT,lookK,gcH,reach,keysT,keepK,inKs,AV.keys,IntKind.bits,↓i_andU,kk,hn,k0,mk,fd,b,w5]
theorem rc (ys:List Int) (j:Nat) (y:Int) (h:ys[j]? = some y):readC [((1,11,0),⟨bs ys,true,true,true,1,false⟩)] (.ptr (1,11,0) j) 1=some [.int .u8 y]:=by
  have hl:j < ys.length:=(List.getElem?_eq_some_iff.1 h).1
  have e:(bs ys)[j]? = some (.int .u8 y):=by rw [bs_get,h]; rfl
  obtain ⟨h1,h2⟩:=List.getElem?_eq_some_iff.1 e
  simp [readC,lookK,bs_length]
  rw [List.drop_eq_getElem_cons h1,h2]
  simp; omega
theorem wc (ys:List Int) (j:Nat) (v:Int) (h:j < ys.length):writeC [((1,11,0),⟨bs ys,true,true,true,1,false⟩)] (1,11,0) j [.int .u8 v]=some [((1,11,0),⟨bs (ys.set j v),true,true,true,1,false⟩)]:=by
  unfold writeC
  simp only [lookK,if_true]
  rw [if_pos ⟨trivial,trivial,by rw [bs_length]; simp; omega,by simp [AV.scal]⟩]
  have e:writeL (bs ys) j [.int .u8 v]=bs (ys.set j v):=by
    unfold writeL bs
    rw [List.map_set,List.set_eq_take_append_cons_drop]
    simp [h]
  rw [e]; simp [setK]
theorem one (call sc) (k1:Nat) (w n:Int) (L:Nat) (ys:List Int) (j t:Nat) (y v:Int) (ht:t < 8) (hk:8 * j + t < 64) (hn:((8 * j + t:Nat):Int) < n) (w0:0 ≤ w) (hL:ys.length=L) (hy:ys[j]? = some y) (b:andU (w / 2 ^ (8 * j + t)) 1=1) (o:or8 y (128 / 2 ^ t)=v) :
    aCode E call sc k1 1 fn29 b29 (cleanS 1 ((firstReg b29).bind fn29.head) (S w n L ys ((8 * j + t:Nat):Int)))=some (.normal,S w n L (ys.set j v) ((8 * j + t + 1:Nat):Int)):=by
  have hl:j < ys.length:=(List.getElem?_eq_some_iff.1 hy).1
  have r1:=rc ys j y hy
  have r2:=wc ys j v hl
  have kk:=bs_keys ys
  have kk2:=bs_keys (ys.set j v)
  have hjL:j < L:=by omega
  have hjL2:(j:Int) < (L:Int):=by omega
  have fd:w.fdiv (2 ^ (8 * j + t))=w / 2 ^ (8 * j + t):=Int.fdiv_eq_ediv_of_nonneg w (Int.le_of_lt (Int.pow_pos (by decide)))
  generalize hK:8 * j + t=k at *
  have k0:¬ (k:Int) < 0:=by omega
  have mk:min k 64=k:=by omega
  have q1:(k:Int).tdiv 8=(j:Int):=by rw [Int.tdiv_eq_ediv_of_nonneg (by omega)]; omega
  have q2:(k:Int).tmod 8=(t:Int):=by rw [Int.tmod_eq_emod_of_nonneg (by omega)]; omega
  have q3:(k:Int) / 8=(j:Int):=by omega
  have q4:(k:Int) % 8=(t:Int):=by omega
  have w1:=w64 (j:Int) (by omega) (by omega)
  have w5:=w64 ((k:Int) + 1) (by omega) (by omega)
  have e:((k + 1:Nat):Int)=(k:Int) + 1:=by omega
  have ht2:t=0 ∨ t=1 ∨ t=2 ∨ t=3 ∨ t=4 ∨ t=5 ∨ t=6 ∨ t=7:=by omega
  rcases ht2 with rfl | rfl | rfl | rfl | rfl | rfl | rfl | rfl
  · have q2':(k:Int).tmod 8=0:=q2
    have q4':(k:Int) % 8=0:=q4
    have o':or8 y 128=v:=o
    simp [b29,c29,↓s_seq,↓s_reg,↓s_regd,↓s_cond,↓s_block,↓s_cons,s_nil,firstReg,s_val,s_skip,s_rgx,s_sqn,s_cdb,s_bkn,s_skip',s_clean,o_tmp,o_int,l_hit,l_miss,x_move,x_assign,x_bin,bn_s,binA,intOp,keepT,x_load,ldx,x_store,stx,x_indexAddr,iax,lookK,TyI.mk1,indexAddrA,AV.cells,gcH,reach,keysT,keepK,inKs,AV.keys,Ty.isAgg,w_fdiv,w_tdiv,w_tmod,IntKind.bits,↓i_andU,↓i_or8,kk,kk2,hn,k0,mk,fd,b,w5,q3,q4',w1,hjL2,r1,r2,o']
  · have q2':(k:Int).tmod 8=1:=q2
    have q4':(k:Int) % 8=1:=q4
    have o':or8 y 64=v:=o
    simp [b29,c29,↓s_seq,↓s_reg,↓s_regd,↓s_cond,↓s_block,↓s_cons,s_nil,firstReg,s_val,s_skip,s_rgx,s_sqn,s_cdb,s_bkn,s_skip',s_clean,o_tmp,o_int,l_hit,l_miss,x_move,x_assign,x_bin,bn_s,binA,intOp,keepT,x_load,ldx,x_store,stx,x_indexAddr,iax,lookK,TyI.mk1,indexAddrA,AV.cells,gcH,reach,keysT,keepK,inKs,AV.keys,Ty.isAgg,w_fdiv,w_tdiv,w_tmod,IntKind.bits,↓i_andU,↓i_or8,kk,kk2,hn,k0,mk,fd,b,w5,q3,q4',w1,hjL2,r1,r2,o']
  · have q2':(k:Int).tmod 8=2:=q2
    have q4':(k:Int) % 8=2:=q4
    have o':or8 y 32=v:=o
    simp [b29,c29,↓s_seq,↓s_reg,↓s_regd,↓s_cond,↓s_block,↓s_cons,s_nil,firstReg,s_val,s_skip,s_rgx,s_sqn,s_cdb,s_bkn,s_skip',s_clean,o_tmp,o_int,l_hit,l_miss,x_move,x_assign,x_bin,bn_s,binA,intOp,keepT,x_load,ldx,x_store,stx,x_indexAddr,iax,lookK,TyI.mk1,indexAddrA,AV.cells,gcH,reach,keysT,keepK,inKs,AV.keys,Ty.isAgg,w_fdiv,w_tdiv,w_tmod,IntKind.bits,↓i_andU,↓i_or8,kk,kk2,hn,k0,mk,fd,b,w5,q3,q4',w1,hjL2,r1,r2,o']
  · have q2':(k:Int).tmod 8=3:=q2
    have q4':(k:Int) % 8=3:=q4
    have o':or8 y 16=v:=o
    simp [b29,c29,↓s_seq,↓s_reg,↓s_regd,↓s_cond,↓s_block,↓s_cons,s_nil,firstReg,s_val,s_skip,s_rgx,s_sqn,s_cdb,s_bkn,s_skip',s_clean,o_tmp,o_int,l_hit,l_miss,x_move,x_assign,x_bin,bn_s,binA,intOp,keepT,x_load,ldx,x_store,stx,x_indexAddr,iax,lookK,TyI.mk1,indexAddrA,AV.cells,gcH,reach,keysT,keepK,inKs,AV.keys,Ty.isAgg,w_fdiv,w_tdiv,w_tmod,IntKind.bits,↓i_andU,↓i_or8,kk,kk2,hn,k0,mk,fd,b,w5,q3,q4',w1,hjL2,r1,r2,o']
  · have q2':(k:Int).tmod 8=4:=q2
    have q4':(k:Int) % 8=4:=q4
    have o':or8 y 8=v:=o
    simp [b29,c29,↓s_seq,↓s_reg,↓s_regd,↓s_cond,↓s_block,↓s_cons,s_nil,firstReg,s_val,s_skip,s_rgx,s_sqn,s_cdb,s_bkn,s_skip',s_clean,o_tmp,o_int,l_hit,l_miss,x_move,x_assign,x_bin,bn_s,binA,intOp,keepT,x_load,ldx,x_store,stx,x_indexAddr,iax,lookK,TyI.mk1,indexAddrA,AV.cells,gcH,reach,keysT,keepK,inKs,AV.keys,Ty.isAgg,w_fdiv,w_tdiv,w_tmod,IntKind.bits,↓i_andU,↓i_or8,kk,kk2,hn,k0,mk,fd,b,w5,q3,q4',w1,hjL2,r1,r2,o']
  · have q2':(k:Int).tmod 8=5:=q2
    have q4':(k:Int) % 8=5:=q4
    have o':or8 y 4=v:=o
    simp [b29,c29,↓s_seq,↓s_reg,↓s_regd,↓s_cond,↓s_block,↓s_cons,s_nil,firstReg,s_val,s_skip,s_rgx,s_sqn,s_cdb,s_bkn,s_skip',s_clean,o_tmp,o_int,l_hit,l_miss,x_move,x_assign,x_bin,bn_s,binA,intOp,keepT,x_load,ldx,x_store,stx,x_indexAddr,iax,lookK,TyI.mk1,indexAddrA,AV.cells,gcH,reach,keysT,keepK,inKs,AV.keys,Ty.isAgg,w_fdiv,w_tdiv,w_tmod,IntKind.bits,↓i_andU,↓i_or8,kk,kk2,hn,k0,mk,fd,b,w5,q3,q4',w1,hjL2,r1,r2,o']
  · have q2':(k:Int).tmod 8=6:=q2
    have q4':(k:Int) % 8=6:=q4
    have o':or8 y 2=v:=o
    simp [b29,c29,↓s_seq,↓s_reg,↓s_regd,↓s_cond,↓s_block,↓s_cons,s_nil,firstReg,s_val,s_skip,s_rgx,s_sqn,s_cdb,s_bkn,s_skip',s_clean,o_tmp,o_int,l_hit,l_miss,x_move,x_assign,x_bin,bn_s,binA,intOp,keepT,x_load,ldx,x_store,stx,x_indexAddr,iax,lookK,TyI.mk1,indexAddrA,AV.cells,gcH,reach,keysT,keepK,inKs,AV.keys,Ty.isAgg,w_fdiv,w_tdiv,w_tmod,IntKind.bits,↓i_andU,↓i_or8,kk,kk2,hn,k0,mk,fd,b,w5,q3,q4',w1,hjL2,r1,r2,o']
  · have q2':(k:Int).tmod 8=7:=q2
    have q4':(k:Int) % 8=7:=q4
    have o':or8 y 1=v:=o
    simp [b29,c29,↓s_seq,↓s_reg,↓s_regd,↓s_cond,↓s_block,↓s_cons,s_nil,firstReg,s_val,s_skip,s_rgx,s_sqn,s_cdb,s_bkn,s_skip',s_clean,o_tmp,o_int,l_hit,l_miss,x_move,x_assign,x_bin,bn_s,binA,intOp,keepT,x_load,ldx,x_store,stx,x_indexAddr,iax,lookK,TyI.mk1,indexAddrA,AV.cells,gcH,reach,keysT,keepK,inKs,AV.keys,Ty.isAgg,w_tdiv,w_tmod,IntKind.bits,↓i_andU,↓i_or8,kk,kk2,hn,k0,mk,fd,b,w5,q3,q4',w1,hjL2,r1,r2,o']
end T21
end
section
open Ab Go T1 T2 T4 T5 T6 T14 T21
namespace T22
theorem W_bit:∀ (l:List Int),isBit l → ∀ (k:Nat) (x:Int),l[k]? = some x → W l / 2 ^ k % 2=x
  | [],_,k,x,h => by simp at h
  | y :: r,hb,0,x,h => by
    have b:=hb y (by simp)
    simp at h; subst h
    simp only [W,Int.pow_zero,Int.ediv_one]
    omega
  | y :: r,hb,k + 1,x,h => by
    have b:=hb y (by simp)
    have ih:=W_bit r (fun z hz => hb z (by simp [hz])) k x (by simpa using h)
    have e:(2 * W r + y) / 2=W r:=by omega
    simp only [W]
    rw [Int.pow_succ,Int.mul_comm ((2:Int) ^ k) 2,← Int.ediv_ediv_of_nonneg (by decide),e]
    exact ih
theorem and1 (v:Int) (h0:0 ≤ v) (h1:v < 18446744073709551616):andU v 1=v % 2:=by
  obtain ⟨n,rfl⟩:=Int.eq_ofNat_of_zero_le h0
  unfold andU
  have e1:(1:Int)=((1:Nat):Int):=rfl
  rw [e1,BitVec.ofInt_natCast,BitVec.ofInt_natCast,BitVec.toNat_and,BitVec.toNat_ofNat,BitVec.toNat_ofNat,Nat.mod_eq_of_lt (by omega),Nat.mod_eq_of_lt (by omega),Nat.and_one_is_mod,w_u64]
  omega
theorem bit_upd (l:List Int) (k i:Nat) (x:Int) (h:l[k]? = some x):bit (l.take (k + 1)) i=if i=k then x else bit (l.take k) i:=by
  unfold bit
  rw [List.take_add_one,h]
  have lk:(l.take k).length=k:=by rw [List.length_take]; have:=(List.getElem?_eq_some_iff.1 h).1; omega
  by_cases e:i=k
  · subst e
    rw [List.getElem?_append_right (by omega),lk]; simp
  · rw [if_neg e]
    by_cases e2:i < k
    · rw [List.getElem?_append_left (by omega)]
    · rw [List.getElem?_eq_none (by simp; omega),List.getElem?_eq_none (by omega)]
theorem bit_out (l:List Int) (k i:Nat) (h:k ≤ i):bit (l.take k) i=0:=by
  unfold bit
  rw [List.getElem?_eq_none (by simp; omega)]; rfl
theorem row_zero (l:List Int) (L k:Nat) (h:l[k]? = some 0):upto (l.take (k + 1)) L=upto (l.take k) L:=by
  unfold upto
  refine List.map_congr_left fun j _ => ?_
  rw [T12.val_eight,T12.val_eight]
  have g:∀ i,bit (l.take (k + 1)) i=bit (l.take k) i:=fun i => by
    rw [bit_upd l k i 0 h]
    split
    · rename_i e; subst e; rw [bit_out l i i (by omega)]
    · rfl
  simp only [g]
theorem val_one (l:List Int) (j t:Nat) (ht:t < 8) (h:l[8 * j + t]? = some 1):val (l.take (8 * j + t + 1)) (8 * j) 8=val (l.take (8 * j + t)) (8 * j) 8 + 128 / 2 ^ t:=by
  rw [T12.val_eight,T12.val_eight]
  have g:=fun i => bit_upd l (8 * j + t) i 1 h
  have z:=bit_out l (8 * j + t) (8 * j + t) (by omega)
  have ht2:t=0 ∨ t=1 ∨ t=2 ∨ t=3 ∨ t=4 ∨ t=5 ∨ t=6 ∨ t=7:=by omega
  rcases ht2 with rfl | rfl | rfl | rfl | rfl | rfl | rfl | rfl <;> (try simp only [Nat.add_zero] at g z ⊢) <;> simp [g,z] <;> omega
theorem row_one (l:List Int) (L j t:Nat) (ht:t < 8) (hj:j < L) (h:l[8 * j + t]? = some 1):upto (l.take (8 * j + t + 1)) L=(upto (l.take (8 * j + t)) L).set j (val (l.take (8 * j + t)) (8 * j) 8 + 128 / 2 ^ t):=by
  apply List.ext_getElem?
  intro i
  rw [List.getElem?_set]
  unfold upto
  by_cases hi:i < L
  · by_cases e:j=i
    · subst e
      simp [hi,val_one l j t ht h]
    · rw [if_neg e]
      simp only [List.getElem?_map,List.getElem?_range hi,Option.map_some,Option.some.injEq]
      rw [T12.val_eight,T12.val_eight]
      have g:∀ s,s < 8 → bit (l.take (8 * j + t + 1)) (8 * i + s)=bit (l.take (8 * j + t)) (8 * i + s):=fun s hs => by
        rw [bit_upd l _ _ 1 h,if_neg (by omega)]
      have g0:bit (l.take (8 * j + t + 1)) (8 * i)=bit (l.take (8 * j + t)) (8 * i):=g 0 (by omega)
      rw [g0,g 1 (by omega),g 2 (by omega),g 3 (by omega),g 4 (by omega),g 5 (by omega),g 6 (by omega),g 7 (by omega)]
  · rw [List.getElem?_eq_none (by simp; omega)]
    split
    · rename_i e; subst e; omega
    · rw [List.getElem?_eq_none (by simp; omega)]
end T22
end
