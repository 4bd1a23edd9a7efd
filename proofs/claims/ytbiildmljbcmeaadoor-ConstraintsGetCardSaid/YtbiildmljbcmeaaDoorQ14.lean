/- Own work, no conditions. -/
import Derived.Test.YtbiildmljbcmeaaDoorE60
import Derived.Test.YtbiildmljbcmeaaDoorE40
import Derived.Test.YtbiildmljbcmeaaDoorF10
import Derived.Test.YtbiildmljbcmeaaDoorB40
set_option maxRecDepth 20000
set_option linter.unusedSimpArgs false
set_option linter.unusedVariables false
set_option maxHeartbeats 16000000
section
open Ab Go TabE
attribute [local simp ↓] s_seq s_reg s_regd s_cond s_block s_cons s_consG s_regD
attribute [local simp] s_nil s_loop s_round s_lpn s_lpe s_lpr firstReg s_gt s_gf s_wb s_wu s_val s_valN s_skip s_calls s_callP s_cax lookR flatR pureKs s_ret s_rgx s_sqn s_sqr s_sqe s_cdb s_bkn s_bkr s_bke s_exit s_ret' s_skip' s_finr s_finn s_fin1 s_fix s_clean s_gc0 o_tmp o_int o_bool o_nil o_str o_fn o_nil' l_hit l_miss l_nil ol_nil ol_cons ol_some x_move x_assign x_pick pk_t pk_f x_bin bn_s x_un x_extract x_callF cl_no x_callB x_callBF frzV x_conv cvx convA frame0 binA intOp resL resA results1 sealLW AV.pure AV.pureL keepT x_alloc x_box bxx x_build bdx x_buildSlice bsx x_buildSliceF bsf x_load ldx x_store stx x_slice slx x_fieldAddr x_field x_index ixx x_indexAddr iax x_makeSlice msx x_makeSliceF msf x_nilCheck newK genOf setK lookK fillA writeL writeC readC conts TyI.mk1 sliceA boundsA boundsB fitsA numA indexAddrA fieldAddrA partA fieldA indexA appendA copyA builtinA AV.cells chunk gcH reach keysT keepK inKs AV.keys AV.keysL Ty.isAgg eq1 eqL convA.go ltI w_u8 w_u32 w_u64 w_i64 w_fdiv w_tdiv w_tmod IntKind.bits unA sc_int sc_bool sc_str sc_sl sc_ref sc_ptr sc_pel sc_nilp sc_fn sc_nilf sc_if sc_nili sc_agg sc_tup sc_mem bs_pure bs_kl bs_length bs_cells bs_all sl_row sealRow sealY sl_int sl_bool sl_str sl_sl sl_nilp sl_nilf sl_nili sl_pel sl_agg sl_tup sl_fn sl_if nat_1 bs_cons bs_nil i_beq i_bne x_mkF x_mkI x_tassert x_panic s_pan s_sqp s_bkp s_finp s_fixp s_lpp s_rgp s_retp s_site s_stxN s_stxO x_callT clx El.avs_len s_dyn0 s_rgy barOf dynChk footL dynOK disjK keysOp opVals Op.operands
section
open Ab Go TabE Sp E40 E53 E56
namespace Sp
theorem okc_eq (e:El):okc e.core ↔ 0 ≤ e.c ∧ 0 ≤ e.n ∧ isB e.b ∧ okcs (El.cores e.s):=by rw [El.core_eq,okc]
theorem okcs_all:∀ {l:List El},okcs (El.cores l) ↔ ∀ x ∈ l,okc x.core
  | [] => by simp [El.cores,okcs]
  | e :: r => by rw [El.cores,okcs,okcs_all (l:=r)]; simp
theorem encs_ge:∀ l:List El,l.length ≤ (encs (El.cores l)).length
  | [] => by simp
  | e :: r => by rw [El.cores,encs,List.length_append,List.length_cons]; have:=enc_len2 e.core; have:=encs_ge r; omega
theorem ok_of:∀ e:El,okc e.core → vld e.core → (enc e.core).length ≤ 1000000000 → e.ok ∧ e.sm:=by
  refine El.ind fun e ih ho hv hl => ?_
  obtain ⟨o1,o2,o3,o4⟩:=(okc_eq e).1 ho
  obtain ⟨v1,v2,v3,v4⟩:=(vld_eq e).1 hv
  obtain ⟨t1,t2⟩:=tagE_3 v1
  rw [enc_eq,List.length_append,List.length_append,List.length_append] at hl
  have g:=encs_ge e.s
  have sub:∀ x ∈ e.s,x.ok ∧ x.sm:=fun x hx => ih x hx (okcs_all.1 o4 x hx) (vlds_all.1 v4 x hx) (by have:=E18.encs_mem hx; omega)
  exact ⟨(El.ok_eq e).2 ⟨⟨o1,by omega⟩,⟨o2,by omega⟩,o3,by omega,by omega,fun x hx => (sub x hx).1⟩,(El.sm_eq e).2 ⟨by omega,by omega,fun x hx => (sub x hx).2⟩⟩
theorem okc_of:∀ e:El,e.ok → okc e.core:=by
  refine El.ind fun e ih h => ?_
  exact (okc_eq e).2 ⟨h.cb.1,h.nb.1,h.bb,okcs_all.2 fun x hx => ih x hx (h.sub x hx)⟩
def rg (b:List Int):Rr:=if 1048576 < b.length then .bad 0 3 else match rd (b.length + 2) b 0 b.length 1 0 with
  | .bad x y => .bad x y
  | .ok c n m => if n < b.length then .bad n 8 else .ok c n m
theorem rg_ok {b:List Int} (hb:isB b) {c n m} (h:rg b=.ok c n m):b.length ≤ 1048576 ∧ enc c=b ∧ okc c ∧ vld c ∧ cnt c ≤ 8192 ∧ dep c ≤ 16:=by
  unfold rg at h
  split at h
  · cases h
  split at h
  · cases h
  · rename_i c' n' m' hr
    split at h
    · cases h
    · cases h
      have R:=rd_back _ b 0 b.length 1 0 c n m hb (Nat.le_refl _) (by omega) (by omega) hr
      have r1:=R.r
      have x:=R.x
      obtain rfl:n=b.length:=by omega
      rw [List.drop_zero,List.take_length] at x
      exact ⟨by omega,x.symm,R.o,R.v,by have:=R.n; have:=R.k; omega,by have:=R.d; omega⟩
theorem rg_ne {b:List Int} {x y} (h:rg b=.bad x y):y ≠ 0:=by
  unfold rg at h
  split at h
  · cases h; decide
  split at h
  · rename_i hr; cases h; exact (bad_ne _).1 _ _ _ _ _ _ _ hr
  · split at h
    · cases h; decide
    · cases h
end Sp
namespace E61
def av1:Rr → AV
  | .ok c n m => .tup [(dec1 c).av,.int .i64 0,.int .i64 0]
  | .bad x y => .tup [zv,.int .i64 x,.int .i64 y]
theorem get (fl:Bool) (b:List Int) (cp:Option Nat) (hn:fl=true → b=[]) (hb:isB b):Con E (b.length + 310) 49 [.sl fl (bs b) cp] (av1 (rg b)):=by
  obtain ⟨K,hK⟩:∃ K,b.length + 309=K:=⟨_,rfl⟩
  have eK:b.length + 310=K + 1:=by omega
  rw [eK]
  refine con_of E_fn49 (by simp [AV.pureL,AV.pure]) (Nat.le_of_ble_eq_true rfl) rfl rfl (g:=[]) ?_
  rw [body_49,c49]
  unfold rg
  by_cases long:1048576 < b.length
  · have N:=E59.long fl b cp long K (by omega) 0
    rw [if_pos long]
    simp [N,av1,zv]
  rw [if_neg long]
  have N:=E60.next fl b cp hn hb (by omega) K (by omega) 0
  cases hr:rd (b.length + 2) b 0 b.length 1 0 with
  | bad x y =>
    have y0:=(bad_ne _).1 _ _ _ _ _ _ _ hr
    rw [hr] at N
    simp only [E60.res1] at N
    simp [N,av1,zv,y0]
  | ok c n m =>
    rw [hr] at N
    simp only [E60.res1] at N
    rw [El.av_eq] at N
    simp only
    by_cases q:n < b.length
    · have q':(n:Int) < b.length:=by omega
      rw [if_pos q]
      simp [N,av1,zv,q,q']
    · have q':¬ (n:Int) < b.length:=by omega
      rw [if_neg q,av1,El.av_eq]
      simp [N,q,q']
end E61
end
end
section
open Ab Go TabE Sp E34 F1 F2 F4 F5 F6 F7 F8
namespace F11
def ck (s:List El):List Fld → List Int → Nat → Option Nat
  | [],[],j => some j
  | x :: r,v :: o,j => if v = -1 ∧ x.opt=true then ck s r o j else match s[j]? with
    | some y => if v=j ∧ F7.mt x y=true then ck s r o (j + 1) else none
    | none => none
  | _,_,_ => none
theorem sqr_ck (s:List El):∀ (r:List Fld) (j:Nat) (o o':List Int) (j':Nat),sqr s r j o=.inl (o',j') → ∃ t,o'=o ++ t ∧ ck s r t j=some j'
  | [],j,o,o',j',h => by unfold sqr at h; cases h; exact ⟨[],by simp,rfl⟩
  | x :: r,j,o,o',j',h => by
    unfold sqr at h
    cases hy:s[j]? with
    | none =>
      rw [hy] at h
      simp only at h
      split at h
      · rename_i ho
        obtain ⟨t,e,k⟩:=sqr_ck s r j _ o' j' h
        exact ⟨-1 :: t,by rw [e]; simp,by unfold ck; rw [if_pos ⟨rfl,ho⟩]; exact k⟩
      · cases h
    | some y =>
      rw [hy] at h
      simp only at h
      split at h
      · rename_i m
        obtain ⟨t,e,k⟩:=sqr_ck s r (j + 1) _ o' j' h
        exact ⟨(j:Int) :: t,by rw [e]; simp,by unfold ck; rw [if_neg (by omega),hy]; simp only; rw [if_pos ⟨trivial,m⟩]; exact k⟩
      · split at h
        · rename_i ho
          obtain ⟨t,e,k⟩:=sqr_ck s r j _ o' j' h
          exact ⟨-1 :: t,by rw [e]; simp,by unfold ck; rw [if_pos ⟨rfl,ho⟩]; exact k⟩
        · cases h
theorem sqr_bad (s:List El):∀ (r:List Fld) (j:Nat) (o:List Int) (e:Int) (p:List Int),sqr s r j o=.inr (e,p) → e ≠ 0 ∧ p.length < 2
  | [],j,o,e,p,h => by unfold sqr at h; cases h
  | x :: r,j,o,e,p,h => by
    unfold sqr at h
    cases hy:s[j]? with
    | none =>
      rw [hy] at h
      simp only at h
      split at h
      · exact sqr_bad s r j _ e p h
      · cases h; simp
    | some y =>
      rw [hy] at h
      simp only at h
      split at h
      · exact sqr_bad s r (j + 1) _ e p h
      · split at h
        · exact sqr_bad s r j _ e p h
        · cases h; simp
theorem sq_bad {e:El} {t:Int × Bool × Int} {l:List Fld} {er:Int} {p:List Int} (h:sq e t l=.inr (er,p)):er ≠ 0 ∧ p.length < 2:=by
  unfold sq at h
  split at h
  · cases h; simp
  split at h
  · cases h; simp
  split at h
  · rename_i q hq; cases h; exact sqr_bad _ _ _ _ _ _ hq
  · split at h
    · cases h; simp
    · cases h
theorem sq_ok {e:El} {t:Int × Bool × Int} {l:List Fld} {o:List Int} (h:sq e t l=.inl o):o.length=l.length ∧ ck e.s l o 0=some e.s.length ∧ l.length ≤ 256 ∧ e.c=t.1 ∧ e.k=t.2.1 ∧ e.n=t.2.2:=by
  unfold sq at h
  split at h
  · cases h
  rename_i big
  split at h
  · cases h
  rename_i tg
  split at h
  · cases h
  · rename_i o' j hq
    split at h
    · cases h
    · rename_i hj
      cases h
      have ln:=sqr_len e.s l 0 [] o j (by omega) hq
      obtain ⟨t,e1,k⟩:=sqr_ck e.s l 0 [] o j hq
      simp at e1 ln
      subst e1
      have tg':=Classical.not_not.1 tg
      exact ⟨ln.1,by rw [k]; congr 1; omega,by omega,tg'⟩
end F11
end
section
open Ab Go TabE
attribute [local simp ↓] s_seq s_reg s_regd s_cond s_block s_cons s_consG s_regD
attribute [local simp] s_nil s_loop s_round s_lpn s_lpe s_lpr firstReg s_gt s_gf s_wb s_wu s_val s_valN s_skip s_calls s_callP s_cax lookR flatR pureKs s_ret s_rgx s_sqn s_sqr s_sqe s_cdb s_bkn s_bkr s_bke s_exit s_ret' s_skip' s_finr s_finn s_fin1 s_fix s_clean s_gc0 o_tmp o_int o_bool o_nil o_str o_fn o_nil' l_hit l_miss l_nil ol_nil ol_cons ol_some x_move x_assign x_pick pk_t pk_f x_bin bn_s x_un x_extract x_callF cl_no x_callB x_callBF frzV x_conv cvx convA frame0 binA intOp resL resA results1 sealLW AV.pure AV.pureL keepT x_alloc x_box bxx x_build bdx x_buildSlice bsx x_buildSliceF bsf x_load ldx x_store stx x_slice slx x_fieldAddr x_field x_index ixx x_indexAddr iax x_makeSlice msx x_makeSliceF msf x_nilCheck newK genOf setK lookK fillA writeL writeC readC conts TyI.mk1 sliceA boundsA boundsB fitsA numA indexAddrA fieldAddrA partA fieldA indexA appendA copyA builtinA AV.cells chunk gcH reach keysT keepK inKs AV.keys AV.keysL Ty.isAgg eq1 eqL convA.go ltI w_u8 w_u32 w_u64 w_i64 w_fdiv w_tdiv w_tmod IntKind.bits unA sc_int sc_bool sc_str sc_sl sc_ref sc_ptr sc_pel sc_nilp sc_fn sc_nilf sc_if sc_nili sc_agg sc_tup sc_mem bs_pure bs_kl bs_length bs_cells bs_all sl_row sealRow sealY sl_int sl_bool sl_str sl_sl sl_nilp sl_nilf sl_nili sl_pel sl_agg sl_tup sl_fn sl_if nat_1 bs_cons bs_nil i_beq i_bne x_mkF x_mkI x_tassert x_panic s_pan s_sqp s_bkp s_finp s_fixp s_lpp s_rgp s_retp s_site s_stxN s_stxO x_callT clx El.avs_len s_dyn0 s_rgy barOf dynChk footL dynOK disjK keysOp opVals Op.operands
section
open Ab Go TabE Sp E40
namespace Q3
def sup:List Int → Bool
  | x :: y :: _ => (x == 0 && decide (y < 128)) || (x == 255 && decide (128 ≤ y))
  | _ => false
theorem superf (f c) (b:List Int) (hl:b.length ≤ 100000000):Con E 10 130 [.sl f (bs b) c] (.bool (sup b)):=by
  refine con_of E_fn130 (by simp [AV.pureL,AV.pure]) (Nat.le_of_ble_eq_true rfl) rfl rfl (g:=[]) ?_
  rw [body_130,c130]
  match b,hl with
  | [],_ => simp [bs,sup]
  | [x],_ => simp [bs,sup]
  | x :: y :: r,hl =>
    have i0:=byte_at f c (x :: y :: r) 0 x rfl
    have i1:=byte_at f c (x :: y :: r) 1 y rfl
    have n0:∀ hp,indexAddrA E 26 (.sl f (.int .u8 x :: .int .u8 y :: bs r) c) (.int .i64 0) hp=some (.pel [.int .u8 x]):=i0
    have n1:∀ hp,indexAddrA E 26 (.sl f (.int .u8 x :: .int .u8 y :: bs r) c) (.int .i64 1) hp=some (.pel [.int .u8 y]):=i1
    have l0:(1:Int) < (r.length:Int) + 1 + 1:=by omega
    by_cases a:x=0
    · subst a
      by_cases b':y < 128 <;> simp [-indexAddrA,n0,n1,l0,sup,b']
    · by_cases c':x=255
      · subst c'
        by_cases d':128 ≤ y <;> simp [-indexAddrA,n0,n1,l0,sup,d']
      · simp [-indexAddrA,n0,n1,l0,sup,a,c']
end Q3
end
end
section
open Ab Go TabE Sp E40
namespace Q4
theorem or64 (a y:Int) (a0:-36028797018963968 ≤ a) (a1:a < 36028797018963968) (y0:0 ≤ y) (y1:y < 256):intOp .or .i64 (a * 256) y=some (.int .i64 (256 * a + y)):=by
  obtain ⟨n,rfl⟩:=Int.eq_ofNat_of_zero_le y0
  obtain ⟨m,hm⟩:∃ m:Nat,a % 72057594037927936=(m:Int):=Int.eq_ofNat_of_zero_le (Int.emod_nonneg _ (by omega))
  have hm1:m < 72057594037927936:=by omega
  have e:BitVec.ofInt 64 (a * 256)=BitVec.ofNat 64 (m * 256):=by
    apply BitVec.eq_of_toNat_eq
    rw [BitVec.toNat_ofInt,BitVec.toNat_ofNat]
    omega
  show some (AV.int .i64 (IntKind.i64.wrap (BitVec.ofInt 64 (a * 256) ||| BitVec.ofInt 64 (n:Int)).toNat))=_
  rw [e,BitVec.ofInt_natCast,BitVec.toNat_or,BitVec.toNat_ofNat,BitVec.toNat_ofNat,Nat.mod_eq_of_lt (by omega),Nat.mod_eq_of_lt (by omega)]
  have o:=Nat.shiftLeft_add_eq_or_of_lt (show n < 2 ^ 8 by omega) m
  rw [Nat.shiftLeft_eq] at o
  have o2:m * 256 ||| n=m * 256 + n:=by rw [← o]
  have W:IntKind.i64.wrap ((m * 256 + n:Nat):Int)=256 * a + n:=by
    simp only [IntKind.wrap,IntKind.signed,IntKind.bits]
    simp
    split <;> omega
  rw [o2,W]
end Q4
end
section
open Ab Go TabE Sp E40 Q3 Q4
namespace Q5
def b96:Code:=lp c96 0
abbrev S (f:Bool) (r:List Int) (c:Option Nat) (n:Int) (i:Nat):St:=⟨[(4,.int .i64 n),(25,.sl f (bs r) c),(26,.int .i64 (r.length:Int)),(27,.int .i64 (i:Int))],[]⟩
theorem go (q k1:Nat) (f c) (r:List Int) (n x:Int) (i:Nat) (hx:r[i]? = some x) (hl:r.length ≤ 7) (x0:0 ≤ x) (x1:x < 256) (a0:-36028797018963968 ≤ n) (a1:n < 36028797018963968) :
    rnd fn96 b96 q k1 (S f r c n i)=some (.normal,S f r c (256 * n + x) (i + 1)):=by
  have hi:i < r.length:=(List.getElem?_eq_some_iff.1 hx).1
  have ix:=byte_at f c r i x hx
  have w:=w64' ((i:Int) + 1) (by omega) (by omega)
  have h2:=or64 n x a0 a1 x0 x1
  have w2:=w_i64 x (by omega) (by omega)
  have w3:=w_i64 (n * 256) (by omega) (by omega)
  simp [b96,lp,lps,c96,↓s_seq,↓s_reg,↓s_cond,↓s_block,↓s_cons,s_nil,firstReg,s_val,s_rgx,s_sqn,s_cdb,s_bkn,s_skip',s_clean,o_tmp,o_int,l_hit,l_miss,x_move,x_assign,x_bin,bn_s,x_conv,cvx,convA,binA,intOp,keepT,x_load,ldx,x_indexAddr,iax,lookK,readC,conts,TyI.mk1,gcH,Ty.isAgg,IntKind.bits,-intOp,ix,w,hi,h2,w2,w3]
end Q5
end
section
open Ab Go TabE Sp E40 Q3 Q4 Q5
namespace Q6
def si (x:Int):Int:=if x < 128 then x else x - 256
def vs (n:Int):List Int → Int
  | [] => n
  | x :: r => vs (256 * n + x) r
def val:List Int → Int
  | [] => 0
  | x :: r => vs (si x) r
theorem vs_snoc (n:Int) (a:List Int) (x:Int):vs n (a ++ [x])=256 * vs n a + x:=by
  induction a generalizing n with
  | nil => rfl
  | cons y a ih => exact ih _
theorem take_one (r:List Int) (i:Nat) (x:Int) (h:r[i]? = some x):r.take (i + 1)=r.take i ++ [x]:=by
  rw [List.take_add_one,h]; rfl
theorem bound:∀ (a:List Int) (n:Int),(∀ x ∈ a,0 ≤ x ∧ x < 256) → -128 ≤ n → n < 128 → -128 * 256 ^ a.length ≤ vs n a ∧ vs n a < 128 * 256 ^ a.length:=by
  have g:∀ (a:List Int) (n m:Int),(∀ x ∈ a,0 ≤ x ∧ x < 256) → -m ≤ n → n < m → -(m * 256 ^ a.length) ≤ vs n a ∧ vs n a < m * 256 ^ a.length:=by
    intro a
    induction a with
    | nil => intro n m _ h1 h2; simp [vs]; omega
    | cons x a ih =>
      intro n m hx h1 h2
      have q:=hx x List.mem_cons_self
      have r:=ih (256 * n + x) (256 * m) (fun y hy => hx y (List.mem_cons_of_mem _ hy)) (by omega) (by omega)
      have e:m * 256 ^ (a.length + 1)=256 * m * 256 ^ a.length:=by rw [Int.pow_succ,Int.mul_comm (256 ^ a.length) 256,← Int.mul_assoc,Int.mul_comm m 256]
      simp only [List.length_cons,vs,e]
      exact r
  intro a n hx h1 h2
  have:=g a n 128 hx (by omega) h2
  rw [Int.neg_mul]
  exact this
theorem small (a:List Int) (n:Int) (hx:∀ x ∈ a,0 ≤ x ∧ x < 256) (h1:-128 ≤ n) (h2:n < 128) (hl:a.length ≤ 6):-36028797018963968 ≤ vs n a ∧ vs n a < 36028797018963968:=by
  have b:=bound a n hx h1 h2
  have p:(256:Int) ^ a.length ≤ 256 ^ 6:=by
    obtain ⟨k,hk⟩:∃ k,a.length=k:=⟨_,rfl⟩
    rw [hk] at hl ⊢
    match k,hl with
    | 0,_ => decide
    | 1,_ => decide
    | 2,_ => decide
    | 3,_ => decide
    | 4,_ => decide
    | 5,_ => decide
    | 6,_ => decide
  have e:(256:Int) ^ 6=281474976710656:=by decide
  rw [e] at p
  omega
end Q6
end
section
open Ab Go TabE
attribute [local simp ↓] s_seq s_reg s_regd s_cond s_block s_cons s_consG s_regD
attribute [local simp] s_nil s_loop s_round s_lpn s_lpe s_lpr firstReg s_gt s_gf s_wb s_wu s_val s_valN s_skip s_calls s_callP s_cax lookR flatR pureKs s_ret s_rgx s_sqn s_sqr s_sqe s_cdb s_bkn s_bkr s_bke s_exit s_ret' s_skip' s_finr s_finn s_fin1 s_fix s_clean s_gc0 o_tmp o_int o_bool o_nil o_str o_fn o_nil' l_hit l_miss l_nil ol_nil ol_cons ol_some x_move x_assign x_pick pk_t pk_f x_bin bn_s x_un x_extract x_callF cl_no x_callB x_callBF frzV x_conv cvx convA frame0 binA intOp resL resA results1 sealLW AV.pure AV.pureL keepT x_alloc x_box bxx x_build bdx x_buildSlice bsx x_buildSliceF bsf x_load ldx x_store stx x_slice slx x_fieldAddr x_field x_index ixx x_indexAddr iax x_makeSlice msx x_makeSliceF msf x_nilCheck newK genOf setK lookK fillA writeL writeC readC conts TyI.mk1 sliceA boundsA boundsB fitsA numA indexAddrA fieldAddrA partA fieldA indexA appendA copyA builtinA AV.cells chunk gcH reach keysT keepK inKs AV.keys AV.keysL Ty.isAgg eq1 eqL convA.go ltI w_u8 w_u32 w_u64 w_i64 w_fdiv w_tdiv w_tmod IntKind.bits unA sc_int sc_bool sc_str sc_sl sc_ref sc_ptr sc_pel sc_nilp sc_fn sc_nilf sc_if sc_nili sc_agg sc_tup sc_mem bs_pure bs_kl bs_length bs_cells bs_all sl_row sealRow sealY sl_int sl_bool sl_str sl_sl sl_nilp sl_nilf sl_nili sl_pel sl_agg sl_tup sl_fn sl_if nat_1 bs_cons bs_nil i_beq i_bne x_mkF x_mkI x_tassert x_panic s_pan s_sqp s_bkp s_finp s_fixp s_lpp s_rgp s_retp s_site s_stxN s_stxO x_callT clx El.avs_len s_dyn0 s_rgy barOf dynChk footL dynOK disjK keysOp opVals Op.operands
section
open Ab Go TabE Sp E40 Q3 Q4 Q5 Q6
namespace Q7
def gi (b:List Int):Int × Int:=if b=[] ∨ sup b=true then (0,11) else if 8 < b.length then (0,3) else (val b,0)
theorem last (q k1:Nat) (f c) (r:List Int) (n:Int):rnd fn96 b96 q k1 (Q5.S f r c n r.length)=some (.exit 1,⟨[(4,.int .i64 n),(25,.sl f (bs r) c),(26,.int .i64 (r.length:Int)),(27,.int .i64 (r.length:Int)),(28,.bool false)],[]⟩):=by
  simp [b96,lp,lps,c96]
theorem bad (f c) (b:List Int) (hl:b.length ≤ 100000000) (h:b=[] ∨ sup b=true):Con E 20 96 [.sl f (bs b) c] (.tup [.int .i64 0,.int .i64 11]):=by
  have B:=superf f c b hl 19 (by omega) 0
  refine con_of E_fn96 (by simp [AV.pureL,AV.pure]) (Nat.le_of_ble_eq_true rfl) rfl rfl (g:=[]) ?_
  rw [body_96,c96]
  rcases b with _ | ⟨x,r⟩
  · simp [bs]
  · have h2:sup (x :: r)=true:=by simpa using h
    have n0:¬ ((r.length:Int) + 1=0):=by omega
    rw [h2,bs_cons] at B
    simp [B,n0]
end Q7
end
section
open Ab Go TabE Sp E40 Q3 Q4 Q5 Q6 Q7
namespace Q8
theorem long (f c) (b:List Int) (hl:b.length ≤ 100000000) (h:b ≠ []) (hs:sup b=false) (h8:8 < b.length):Con E 20 96 [.sl f (bs b) c] (.tup [.int .i64 0,.int .i64 3]):=by
  have B:=superf f c b hl 19 (by omega) 0
  refine con_of E_fn96 (by simp [AV.pureL,AV.pure]) (Nat.le_of_ble_eq_true rfl) rfl rfl (g:=[]) ?_
  rw [body_96,c96]
  rcases b with _ | ⟨x,r⟩
  · exact absurd rfl h
  · have n0:¬ ((r.length:Int) + 1=0):=by omega
    have n1:(8:Int) < (r.length:Int) + 1:=by simp at h8; omega
    rw [hs,bs_cons] at B
    simp [B,n0,n1]
end Q8
end
end
section
open Ab Go TabE Sp E40 Q3 Q4 Q5 Q6 Q7
namespace Q9
theorem value (f c) (x:Int) (r:List Int) (hb:∀ y ∈ x :: r,0 ≤ y ∧ y < 256) (hl:r.length ≤ 7) (hs:sup (x :: r)=false):Con E 20 96 [.sl f (bs (x :: r)) c] (.tup [.int .i64 (vs (si x) r),.int .i64 0]):=by
  have B:=superf f c (x :: r) (by simp; omega) 19 (by omega) 0
  have xb:=hb x (List.mem_cons_self ..)
  have hr:∀ y ∈ r,0 ≤ y ∧ y < 256:=fun y hy => hb y (List.mem_cons_of_mem _ hy)
  have s0:-128 ≤ si x ∧ si x < 128:=by unfold si; split <;> omega
  have L:=fun c => loopQ (fn:=fn96) (b:=b96) (K:=19) (k:=19) (fun i => Q5.S f r c (vs (si x) (r.take i)) i) r.length rfl (fun i hi => by
    obtain ⟨y,hy⟩:∃ y,r[i]? = some y:=⟨r[i],by simp⟩
    have yb:=hr y (List.mem_of_getElem? hy)
    have sm:=small (r.take i) (si x) (fun z hz => hr z (List.mem_of_mem_take hz)) s0.1 s0.2 (by simp; omega)
    have G:=go 19 19 f c r (vs (si x) (r.take i)) y i hy hl yb.1 yb.2 sm.1 sm.2
    rw [← vs_snoc,← take_one r i y hy] at G
    exact G) (last 19 19 f c r _) (by simp) (by omega)
  have n0:¬ ((r.length:Int) + 1=0):=by omega
  have n1:¬ ((8:Int) < (r.length:Int) + 1):=by omega
  have ix:∀ hp,indexAddrA E 26 (.sl f (.int .u8 x :: bs r) c) (.int .i64 0) hp=some (.pel [.int .u8 x]):=byte_at f c (x :: r) 0 x rfl
  have w1:IntKind.i64.wrap (IntKind.i8.wrap x)=si x:=by
    unfold si
    simp only [IntKind.wrap,IntKind.signed,IntKind.bits]
    simp
    split <;> split <;> split <;> omega
  have sl:∀ h,sliceA E 26 (.sl f (.int .u8 x :: bs r) c) (some (.int .i64 1)) none none h=some (.sl f (bs r) (c.map (fun x => x - 1))):=fun h => by
    rcases r with _ | ⟨y,r⟩
    · simp [sliceA,boundsA,fitsA,numA,boundsB,bs]
    · simp [sliceA,boundsA,fitsA,numA,boundsB,bs]
      exact ⟨rfl,List.take_of_length_le (by simp)⟩
  refine con_of E_fn96 (by simp [AV.pureL,AV.pure]) (Nat.le_of_ble_eq_true rfl) rfl rfl (g:=[]) ?_
  rw [body_96,c96]
  rw [hs,bs_cons] at B
  simp [b96,lp,lps,c96,firstReg,Q5.S,vs] at L
  simp [↓s_seq,↓s_reg,↓s_cond,↓s_block,↓s_cons,↓s_consG,s_nil,s_loop,firstReg,s_gt,s_wb,s_val,s_calls,s_cax,s_ret,s_rgx,s_sqn,s_cdb,s_bkn,s_bke,s_ret',s_skip',s_finr,s_fin1,s_fix,s_clean,o_tmp,o_int,l_hit,l_miss,ol_nil,ol_cons,ol_some,x_move,x_assign,x_pick,pk_f,x_bin,bn_s,x_callF,cl_no,x_callB,x_conv,cvx,convA,frame0,binA,intOp,resL,resA,results1,sealLW,AV.pure,AV.pureL,keepT,x_load,ldx,x_slice,slx,x_indexAddr,iax,newK,genOf,setK,lookK,writeC,readC,conts,TyI.mk1,appendA,copyA,builtinA,AV.cells,gcH,Ty.isAgg,bs_length,sl_sl,sl_tup,bs_cons,i_beq,B,n0,n1,ix,L,w1,sl]
end Q9
end
section
open Ab Go TabE
attribute [local simp ↓] s_seq s_reg s_regd s_cond s_block s_cons s_consG s_regD
attribute [local simp] s_nil s_loop s_round s_lpn s_lpe s_lpr firstReg s_gt s_gf s_wb s_wu s_val s_valN s_skip s_calls s_callP s_cax lookR flatR pureKs s_ret s_rgx s_sqn s_sqr s_sqe s_cdb s_bkn s_bkr s_bke s_exit s_ret' s_skip' s_finr s_finn s_fin1 s_fix s_clean s_gc0 o_tmp o_int o_bool o_nil o_str o_fn o_nil' l_hit l_miss l_nil ol_nil ol_cons ol_some x_move x_assign x_pick pk_t pk_f x_bin bn_s x_un x_extract x_callF cl_no x_callB x_callBF frzV x_conv cvx convA frame0 binA intOp resL resA results1 sealLW AV.pure AV.pureL keepT x_alloc x_box bxx x_build bdx x_buildSlice bsx x_buildSliceF bsf x_load ldx x_store stx x_slice slx x_fieldAddr x_field x_index ixx x_indexAddr iax x_makeSlice msx x_makeSliceF msf x_nilCheck newK genOf setK lookK fillA writeL writeC readC conts TyI.mk1 sliceA boundsA boundsB fitsA numA indexAddrA fieldAddrA partA fieldA indexA appendA copyA builtinA AV.cells chunk gcH reach keysT keepK inKs AV.keys AV.keysL Ty.isAgg eq1 eqL convA.go ltI w_u8 w_u32 w_u64 w_i64 w_fdiv w_tdiv w_tmod IntKind.bits unA sc_int sc_bool sc_str sc_sl sc_ref sc_ptr sc_pel sc_nilp sc_fn sc_nilf sc_if sc_nili sc_agg sc_tup sc_mem bs_pure bs_kl bs_length bs_cells bs_all sl_row sealRow sealY sl_int sl_bool sl_str sl_sl sl_nilp sl_nilf sl_nili sl_pel sl_agg sl_tup sl_fn sl_if nat_1 bs_cons bs_nil i_beq i_bne x_mkF x_mkI x_tassert x_panic s_pan s_sqp s_bkp s_finp s_fixp s_lpp s_rgp s_retp s_site s_stxN s_stxO x_callT clx El.avs_len s_dyn0 s_rgy barOf dynChk footL dynOK disjK keysOp opVals Op.operands
section
open Ab Go TabE Sp E40 Q3 Q4 Q5 Q6 Q7
namespace Q10
theorem getInt (f c) (b:List Int) (hb:∀ y ∈ b,0 ≤ y ∧ y < 256) (hl:b.length ≤ 100000000):Con E 20 96 [.sl f (bs b) c] (.tup [.int .i64 (gi b).1,.int .i64 (gi b).2]):=by
  unfold gi
  by_cases h:b=[] ∨ sup b=true
  · rw [if_pos h]; exact bad f c b hl h
  · rw [if_neg h]
    have h1:b ≠ []:=fun e => h (.inl e)
    have h2:sup b=false:=by cases e:sup b; rfl; exact absurd (.inr e) h
    by_cases h8:8 < b.length
    · rw [if_pos h8]; exact Q8.long f c b hl h1 h2 h8
    · rw [if_neg h8]
      rcases b with _ | ⟨x,r⟩
      · exact absurd rfl h1
      · exact Q9.value f c x r hb (by simp at h8; omega) h2
def nu (b:List Int):Int × Int:=if (gi b).2 ≠ 0 then (0,(gi b).2) else if (gi b).1 < 0 then (0,11) else if 2147483647 < (gi b).1 then (0,3) else ((gi b).1,0)
theorem number19 (f c) (b:List Int) (hb:∀ y ∈ b,0 ≤ y ∧ y < 256) (hl:b.length ≤ 100000000):Con E 21 52 [.sl f (bs b) c] (.tup [.int .i64 (nu b).1,.int .i64 (nu b).2]):=by
  have G:=getInt f c b hb hl 20 (by omega) 0
  refine con_of E_fn52 (by simp [AV.pureL,AV.pure]) (Nat.le_of_ble_eq_true rfl) rfl rfl (g:=[]) ?_
  rw [body_52,c52]
  unfold nu
  by_cases h0:(gi b).2=0
  · by_cases h1:(gi b).1 < 0
    · simp [G,h0,h1]
    · by_cases h2:2147483647 < (gi b).1 <;> simp [G,h0,h1,h2]
  · simp [G,h0]
end Q10
end
section
open Ab Go TabE Sp E40 Q3 Q4 Q5 Q6 Q7 Q10
namespace Q11
theorem number (f c) (b:List Int) (hb:∀ y ∈ b,0 ≤ y ∧ y < 256) (hl:b.length ≤ 100000000):Con E 21 88 [.sl f (bs b) c] (.tup [.int .i64 (nu b).1,.int .i64 (nu b).2]):=by
  have G:=getInt f c b hb hl 20 (by omega) 0
  refine con_of E_fn88 (by simp [AV.pureL,AV.pure]) (Nat.le_of_ble_eq_true rfl) rfl rfl (g:=[]) ?_
  rw [body_88,c88]
  unfold nu
  by_cases h0:(gi b).2=0
  · by_cases h1:(gi b).1 < 0
    · simp [G,h0,h1]
    · by_cases h2:2147483647 < (gi b).1 <;> simp [G,h0,h1,h2]
  · simp [G,h0]
end Q11
end
section
open Ab Go TabE Sp
namespace QA
def sealRowO (h:Heap) (key:Key) (off len:Nat) (cap:Option Nat):Option (AV × Heap) :=
  match lookK h key with
  | some o => if o.live=true ∧ o.esz=1 ∧ o.eagg=false ∧ off + len ≤ o.cells.length ∧ AV.pureL o.cells=true then some (.sl false ((o.cells.drop off).take len) cap,setK h key ⟨o.cells,o.live,false,o.exact,o.esz,o.eagg⟩) else none
  | none => none
theorem pureL_drop:∀ (n:Nat) (l:List AV),AV.pureL l=true → AV.pureL (l.drop n)=true
  | 0,l,h => h
  | n + 1,[],h => rfl
  | n + 1,x :: l,h => by
    have h':x.pure=true ∧ AV.pureL l=true:=by simpa [AV.pureL] using h
    exact pureL_drop n l h'.2
theorem pureL_take:∀ (n:Nat) (l:List AV),AV.pureL l=true → AV.pureL (l.take n)=true
  | 0,l,h => rfl
  | n + 1,[],h => rfl
  | n + 1,x :: l,h => by
    have h':x.pure=true ∧ AV.pureL l=true:=by simpa [AV.pureL] using h
    simp [AV.pureL,h'.1,pureL_take n l h'.2]
theorem chunk_1:∀ (l:List AV),chunk false 1 l.length l=l
  | [] => rfl
  | x :: l => by simp [chunk,chunk_1 l]
theorem sl_off (n:Nat) (h:Heap) (key:Key) (off len:Nat) (cap:Option Nat):sealA (n + 2) h (.ref key (off + 1) len cap)=sealY (sealRowO h key (off + 1) len cap) (n + 2) h (.ref key (off + 1) len cap):=by
  cases hr:sealRowO h key (off + 1) len cap with
  | none => rfl
  | some r =>
    unfold sealRowO at hr
    split at hr
    · rename_i o hk
      split at hr
      · rename_i hc
        obtain ⟨h1,h2,h3,h4,h5⟩:=hc
        cases hr
        simp only [sealY]
        unfold sealA
        have hp:(AV.ref key (off + 1) len cap).pure=false:=rfl
        simp only [hp,Bool.false_eq_true,if_false,hk]
        rw [if_pos ⟨h1,by rw [h2]; omega,fun _ => h2⟩]
        simp only [h2,Nat.mul_one]
        have pp:=pureL_take len _ (pureL_drop (off + 1) _ h5)
        have ll:((o.cells.drop (off + 1)).take len).length=len:=by rw [List.length_take,List.length_drop]; omega
        rw [sealL_of_pure n _ _ pp]
        simp only [h3]
        conv => lhs; rw [← ll]
        have e:=chunk_1 ((o.cells.drop (off + 1)).take len)
        rw [ll] at e ⊢
        rw [e]
      · cases hr
    · cases hr
theorem clip (f xs c) (hp:AV.pureL xs=true):Con E 5 131 [.sl f xs c] (.sl f xs (some xs.length)):=by
  refine .of (g:=[]) (by simp [AV.pureL,AV.pure,hp]) ?_
  rw [aCall_fn rfl E_fn131 (by simp [AV.pureL,AV.pure,hp]) (Nat.le_of_ble_eq_true rfl) rfl rfl,body_131,c131]
  simp [hp]
theorem sup_one (f x c):Con E 5 130 [.sl f [.int .u8 x] c] (.bool false):=by
  refine .of (g:=[]) rfl ?_
  rw [aCall_fn rfl E_fn130 rfl (Nat.le_of_ble_eq_true rfl) rfl rfl,body_130,c130]
  simp []
theorem sup_yes (f x r c) (hp:AV.pureL r=true) (h:x < 128):Con E 5 130 [.sl f (.int .u8 0 :: .int .u8 x :: r) c] (.bool true):=by
  refine .of (g:=[]) (by simp [AV.pureL,AV.pure,hp]) ?_
  rw [aCall_fn rfl E_fn130 (by simp [AV.pureL,AV.pure,hp]) (Nat.le_of_ble_eq_true rfl) rfl rfl,body_130,c130]
  have e:(1:Int) < (r.length:Int) + 1 + 1:=by omega
  have e':(0:Int) < (r.length:Int) + 1 + 1:=by omega
  simp [h,e,e',hp]
theorem sup_no (f x y r c) (hp:AV.pureL r=true) (h:¬ x=255) (h2:x=0 → 128 ≤ y):Con E 5 130 [.sl f (.int .u8 x :: .int .u8 y :: r) c] (.bool false):=by
  refine .of (g:=[]) (by simp [AV.pureL,AV.pure,hp]) ?_
  rw [aCall_fn rfl E_fn130 (by simp [AV.pureL,AV.pure,hp]) (Nat.le_of_ble_eq_true rfl) rfl rfl,body_130,c130]
  have e:(1:Int) < (r.length:Int) + 1 + 1:=by omega
  have e':(0:Int) < (r.length:Int) + 1 + 1:=by omega
  have e255:(x == 255)=false:=by simp [h]
  by_cases h0:x=0
  · have h3:¬ y < 128:=by have:=h2 h0; omega
    subst h0
    simp [h3,e,e',hp]
  · have e0:(x == 0)=false:=by simp [h0]
    simp [h,h0,e0,e255,e,e',hp]
theorem pn:AV.pureL []=true:=id rfl
theorem div0 {n:Int} {d:Int} (h0:0 ≤ n) (h:n < d):n / d % 256=0:=by rw [Int.ediv_eq_zero_of_lt h0 h]; rfl
theorem put1 (n:Int) (h0:0 ≤ n) (h1:n < 128):Con E 40 89 [.int .i64 n] (.sl false [.int .u8 (n % 256)] (some 1)):=by
  have h0':0 ≤ n:=by omega
  have e1:n / 256 % 256=0:=div0 h0' (by omega)
  have e2:n / 65536 % 256=0:=div0 h0' (by omega)
  have e3:n / 16777216 % 256=0:=div0 h0' (by omega)
  have e4:n / 4294967296 % 256=0:=div0 h0' (by omega)
  have e5:n / 1099511627776 % 256=0:=div0 h0' (by omega)
  have e6:n / 281474976710656 % 256=0:=div0 h0' (by omega)
  have e7:n / 72057594037927936 % 256=0:=div0 h0' (by omega)
  refine .of (g:=[]) rfl ?_
  rw [aCall_fn rfl E_fn89 rfl (Nat.le_of_ble_eq_true rfl) rfl rfl,body_89,c89]
  have t0:n % 256 < 128:=by omega
  simp [e1,e2,e3,e4,e5,e6,e7,t0,sup_one,sup_yes,clip,↓pn,sl_off,sealRowO]
theorem put2 (n:Int) (h0:128 ≤ n) (h1:n < 32768):Con E 40 89 [.int .i64 n] (.sl false [.int .u8 (n / 256 % 256),.int .u8 (n % 256)] (some 2)):=by
  have h0':0 ≤ n:=by omega
  have e2:n / 65536 % 256=0:=div0 h0' (by omega)
  have e3:n / 16777216 % 256=0:=div0 h0' (by omega)
  have e4:n / 4294967296 % 256=0:=div0 h0' (by omega)
  have e5:n / 1099511627776 % 256=0:=div0 h0' (by omega)
  have e6:n / 281474976710656 % 256=0:=div0 h0' (by omega)
  have e7:n / 72057594037927936 % 256=0:=div0 h0' (by omega)
  refine .of (g:=[]) rfl ?_
  rw [aCall_fn rfl E_fn89 rfl (Nat.le_of_ble_eq_true rfl) rfl rfl,body_89,c89]
  have t0:n / 256 % 256 < 128:=by omega
  have s0:∀ f r c,AV.pureL r=true → Con E 5 130 [.sl f (.int .u8 (n / 256 % 256) :: .int .u8 (n % 256) :: r) c] (.bool false):=fun f r c hp => sup_no f _ _ r c hp (by omega) (by omega)
  simp [e2,e3,e4,e5,e6,e7,t0,s0,sup_yes,clip,↓pn,sl_off,sealRowO]
theorem put3 (n:Int) (h0:32768 ≤ n) (h1:n < 8388608):Con E 40 89 [.int .i64 n] (.sl false [.int .u8 (n / 65536 % 256),.int .u8 (n / 256 % 256),.int .u8 (n % 256)] (some 3)):=by
  have h0':0 ≤ n:=by omega
  have e3:n / 16777216 % 256=0:=div0 h0' (by omega)
  have e4:n / 4294967296 % 256=0:=div0 h0' (by omega)
  have e5:n / 1099511627776 % 256=0:=div0 h0' (by omega)
  have e6:n / 281474976710656 % 256=0:=div0 h0' (by omega)
  have e7:n / 72057594037927936 % 256=0:=div0 h0' (by omega)
  refine .of (g:=[]) rfl ?_
  rw [aCall_fn rfl E_fn89 rfl (Nat.le_of_ble_eq_true rfl) rfl rfl,body_89,c89]
  have t0:n / 65536 % 256 < 128:=by omega
  have s0:∀ f r c,AV.pureL r=true → Con E 5 130 [.sl f (.int .u8 (n / 65536 % 256) :: .int .u8 (n / 256 % 256) :: r) c] (.bool false):=fun f r c hp => sup_no f _ _ r c hp (by omega) (by omega)
  simp [e3,e4,e5,e6,e7,t0,s0,sup_yes,clip,↓pn,sl_off,sealRowO]
theorem put4 (n:Int) (h0:8388608 ≤ n) (h1:n < 2147483648):Con E 40 89 [.int .i64 n] (.sl false [.int .u8 (n / 16777216 % 256),.int .u8 (n / 65536 % 256),.int .u8 (n / 256 % 256),.int .u8 (n % 256)] (some 4)):=by
  have h0':0 ≤ n:=by omega
  have e4:n / 4294967296 % 256=0:=div0 h0' (by omega)
  have e5:n / 1099511627776 % 256=0:=div0 h0' (by omega)
  have e6:n / 281474976710656 % 256=0:=div0 h0' (by omega)
  have e7:n / 72057594037927936 % 256=0:=div0 h0' (by omega)
  refine .of (g:=[]) rfl ?_
  rw [aCall_fn rfl E_fn89 rfl (Nat.le_of_ble_eq_true rfl) rfl rfl,body_89,c89]
  have t0:n / 16777216 % 256 < 128:=by omega
  have s0:∀ f r c,AV.pureL r=true → Con E 5 130 [.sl f (.int .u8 (n / 16777216 % 256) :: .int .u8 (n / 65536 % 256) :: r) c] (.bool false):=fun f r c hp => sup_no f _ _ r c hp (by omega) (by omega)
  simp [e4,e5,e6,e7,t0,s0,sup_yes,clip,↓pn,sl_off,sealRowO]
end QA
end
section
open Ab Go TabE Sp
namespace QB
def chkI (a b:Int):Int:=if a < -1 ∨ 2147483647 < a then 1 else if b < -1 ∨ 2147483647 < b then 1 else if a = -1 ∧ b = -1 then 17 else 0
theorem skip (n:Int):Con E 3 97 [.int .i64 n] (.bool (decide (0 ≤ n ∧ n ≤ 2147483647))):=by
  refine .of (g:=[]) rfl ?_
  rw [aCall_fn rfl E_fn97 rfl (Nat.le_of_ble_eq_true rfl) rfl rfl,body_97,c97]
  by_cases h0:0 ≤ n <;> by_cases h1:n ≤ 2147483647 <;> simp [h0,h1]
theorem skip_no (n:Int) (h:n < 0 ∨ 2147483647 < n):Con E 3 97 [.int .i64 n] (.bool false):=by
  have:=skip n
  rwa [decide_eq_false (by omega)] at this
theorem skip_yes (n:Int) (h:0 ≤ n ∧ n ≤ 2147483647):Con E 3 97 [.int .i64 n] (.bool true):=by
  have:=skip n
  rwa [decide_eq_true h] at this
theorem chk_a (a b:Int) (h:a < -1 ∨ 2147483647 < a):Con E 12 85 [.agg [.int .i64 a,.int .i64 b]] (.int .i64 1):=by
  refine .of (g:=[]) rfl ?_
  rw [aCall_fn rfl E_fn85 rfl (Nat.le_of_ble_eq_true rfl) rfl rfl,body_85,c85]
  have s:=skip_no a (by omega)
  have n1:(a != -1)=true:=by simp; omega
  simp [s,n1]
theorem chk_b (a b:Int) (h:0 ≤ a ∧ a ≤ 2147483647) (h2:b < -1 ∨ 2147483647 < b):Con E 12 85 [.agg [.int .i64 a,.int .i64 b]] (.int .i64 1):=by
  refine .of (g:=[]) rfl ?_
  rw [aCall_fn rfl E_fn85 rfl (Nat.le_of_ble_eq_true rfl) rfl rfl,body_85,c85]
  have s:=skip_yes a h
  have s2:=skip_no b (by omega)
  have n1:(a != -1)=true:=by simp; omega
  have n2:(b != -1)=true:=by simp; omega
  simp [s,n1,s2,n2]
theorem chk_b' (b:Int) (h2:b < -1 ∨ 2147483647 < b):Con E 12 85 [.agg [.int .i64 (-1),.int .i64 b]] (.int .i64 1):=by
  refine .of (g:=[]) rfl ?_
  rw [aCall_fn rfl E_fn85 rfl (Nat.le_of_ble_eq_true rfl) rfl rfl,body_85,c85]
  have s:=skip_no (-1) (by omega)
  have s2:=skip_no b (by omega)
  have n2:(b != -1)=true:=by simp; omega
  simp [s,s2,n2]
theorem chk_ok (a b:Int) (h:0 ≤ a ∧ a ≤ 2147483647) (h2:0 ≤ b ∧ b ≤ 2147483647):Con E 12 85 [.agg [.int .i64 a,.int .i64 b]] (.int .i64 0):=by
  refine .of (g:=[]) rfl ?_
  rw [aCall_fn rfl E_fn85 rfl (Nat.le_of_ble_eq_true rfl) rfl rfl,body_85,c85]
  have s:=skip_yes a h
  have s2:=skip_yes b h2
  have n1:(a != -1)=true:=by simp; omega
  have n2:(b != -1)=true:=by simp; omega
  simp [s,n1,s2,n2]
theorem chk_ok1 (a:Int) (h:0 ≤ a ∧ a ≤ 2147483647):Con E 12 85 [.agg [.int .i64 a,.int .i64 (-1)]] (.int .i64 0):=by
  refine .of (g:=[]) rfl ?_
  rw [aCall_fn rfl E_fn85 rfl (Nat.le_of_ble_eq_true rfl) rfl rfl,body_85,c85]
  have s:=skip_yes a h
  have s2:=skip_no (-1) (by omega)
  have n1:(a != -1)=true:=by simp; omega
  simp [s,n1,s2]
theorem chk_ok2 (b:Int) (h2:0 ≤ b ∧ b ≤ 2147483647):Con E 12 85 [.agg [.int .i64 (-1),.int .i64 b]] (.int .i64 0):=by
  refine .of (g:=[]) rfl ?_
  rw [aCall_fn rfl E_fn85 rfl (Nat.le_of_ble_eq_true rfl) rfl rfl,body_85,c85]
  have s:=skip_no (-1) (by omega)
  have s2:=skip_yes b h2
  have n2:(b != -1)=true:=by simp; omega
  simp [s,s2,n2]
theorem chk_none:Con E 12 85 [.agg [.int .i64 (-1),.int .i64 (-1)]] (.int .i64 17):=by
  refine .of (g:=[]) rfl ?_
  rw [aCall_fn rfl E_fn85 rfl (Nat.le_of_ble_eq_true rfl) rfl rfl,body_85,c85]
  have s:=skip_no (-1) (by omega)
  simp [s]
theorem chk (a b:Int):Con E 12 85 [.agg [.int .i64 a,.int .i64 b]] (.int .i64 (chkI a b)):=by
  unfold chkI
  split
  · exact chk_a a b ‹_›
  rename_i ha
  split
  · rename_i hb
    by_cases e:a = -1
    · subst e; exact chk_b' b hb
    · exact chk_b a b (by omega) hb
  rename_i hb
  split
  · rename_i he; obtain ⟨rfl,rfl⟩:=he; exact chk_none
  · rename_i he
    by_cases e:a = -1
    · subst e; exact chk_ok2 b (by omega)
    · by_cases e2:b = -1
      · subst e2; exact chk_ok1 a (by omega)
      · exact chk_ok a b (by omega) (by omega)
theorem chkR (a b:Int):Con E 12 46 [.agg [.int .i64 a,.int .i64 b]] (.int .i64 (chkI a b)):=by
  refine .of (g:=[]) rfl ?_
  rw [aCall_fn rfl E_fn46 rfl (Nat.le_of_ble_eq_true rfl) rfl rfl,body_46,c46]
  unfold chkI
  by_cases h0:a < -1
  · simp [h0]
  by_cases h1:2147483647 < a
  · simp [h0,h1]
  by_cases h2:b < -1
  · simp [h0,h1,h2]
  by_cases h3:2147483647 < b
  · simp [h0,h1,h2,h3]
  by_cases h4:a = -1
  · by_cases h5:b = -1
    · simp [h0,h1,h2,h3,h4,h5]
    · have e5:(b == -1)=false:=by simp [h5]
      simp [h0,h1,h2,h3,h4,h5,e5]
  · have e4:(a == -1)=false:=by simp [h4]
    simp [h0,h1,h2,h3,h4,e4]
end QB
end
end
section
open Ab Go
namespace SG
def sealG (h:Heap) (key:Key) (off len:Nat) (cap:Option Nat):Option (AV × Heap) :=
  match lookK h key with
  | some o => if o.live=true ∧ off + len * o.esz ≤ o.cells.length ∧ (o.eagg=false → o.esz=1) ∧ AV.pureL o.cells=true then some (.sl false (chunk o.eagg o.esz len ((o.cells.drop off).take (len * o.esz))) cap,setK h key ⟨o.cells,o.live,false,o.exact,o.esz,o.eagg⟩) else none
  | none => none
def sealZ (n:Nat) (h:Heap) (v:AV):Option (AV × Heap):=sealA n h v
def sealYG:Option (AV × Heap) → Nat → Heap → AV → Option (AV × Heap)
  | some r,_,_,_ => some r
  | none,n,h,v => sealZ n h v
theorem sl_g (n:Nat) (h:Heap) (key:Key) (off len:Nat) (cap:Option Nat):sealX (n + 2) h (.ref key off len cap)=sealYG (sealG h key off len cap) (n + 2) h (.ref key off len cap):=by
  cases hr:sealG h key off len cap with
  | none => rfl
  | some r =>
    unfold sealG at hr
    split at hr
    · rename_i o hk
      split at hr
      · rename_i hc
        obtain ⟨h1,h2,h3,h5⟩:=hc
        cases hr
        simp only [sealYG]
        unfold sealX sealA
        have hp:(AV.ref key off len cap).pure=false:=rfl
        simp only [hp,Bool.false_eq_true,if_false,hk]
        rw [if_pos ⟨h1,h2,h3⟩]
        have pp:=QA.pureL_take (len * o.esz) _ (QA.pureL_drop off _ h5)
        rw [sealL_of_pure n _ _ pp]
      · cases hr
    · cases hr
end SG
end
section
open Ab Go TabE
attribute [local simp ↓] s_seq s_reg s_regd s_cond s_block s_cons s_consG s_regD
attribute [local simp] s_nil s_loop s_round s_lpn s_lpe s_lpr firstReg s_gt s_gf s_wb s_wu s_val s_valN s_skip s_calls s_callP s_cax lookR flatR pureKs s_ret s_rgx s_sqn s_sqr s_sqe s_cdb s_bkn s_bkr s_bke s_exit s_ret' s_skip' s_finr s_finn s_fin1 s_fix s_clean s_gc0 o_tmp o_int o_bool o_nil o_str o_fn o_nil' l_hit l_miss l_nil ol_nil ol_cons ol_some x_move x_assign x_pick pk_t pk_f x_bin bn_s x_un x_extract x_callF cl_no x_callB x_callBF frzV x_conv cvx convA frame0 binA intOp resL resA results1 sealLW AV.pure AV.pureL keepT x_alloc x_box bxx x_build bdx x_buildSlice bsx x_buildSliceF bsf x_load ldx x_store stx x_slice slx x_fieldAddr x_field x_index ixx x_indexAddr iax x_makeSlice msx x_makeSliceF msf x_nilCheck newK genOf setK lookK fillA writeL writeC readC conts TyI.mk1 sliceA boundsA boundsB fitsA numA indexAddrA fieldAddrA partA fieldA indexA appendA copyA builtinA AV.cells chunk gcH reach keysT keepK inKs AV.keys AV.keysL Ty.isAgg eq1 eqL convA.go ltI w_u8 w_u32 w_u64 w_i64 w_fdiv w_tdiv w_tmod IntKind.bits unA sc_int sc_bool sc_str sc_sl sc_ref sc_ptr sc_pel sc_nilp sc_fn sc_nilf sc_if sc_nili sc_agg sc_tup sc_mem bs_pure bs_kl bs_length bs_cells bs_all sl_row sealRow sealY sl_int sl_bool sl_str sl_sl sl_nilp sl_nilf sl_nili sl_pel sl_agg sl_tup sl_fn sl_if nat_1 bs_cons bs_nil i_beq i_bne x_mkF x_mkI x_tassert x_panic s_pan s_sqp s_bkp s_finp s_fixp s_lpp s_rgp s_retp s_site s_stxN s_stxO x_callT clx El.avs_len s_dyn0 s_rgy barOf dynChk footL dynOK disjK keysOp opVals Op.operands
section
open Ab Go TabE Sp QA QB
namespace QC
abbrev elem (subs:AV):AV:=.agg [.int .u8 0,.bool true,.int .u32 16,.sl true [] (some 0),subs]
abbrev sub (i:Int) (l:List AV) (n:Nat):AV:=.agg [.int .u8 2,.bool false,.int .u32 i,.sl false l (some n),.sl true [] (some 0)]
theorem o_glob {E:Env} {t:Fr} {g}:opd E t (.global g)=(E.glob g).map .pel:=rfl
theorem clipE (f xs c) (hp:AV.pureL xs=true):Con E 5 90 [.sl f xs c] (.sl f xs (some xs.length)):=by
  refine .of (g:=[]) (by simp [AV.pureL,AV.pure,hp]) ?_
  rw [aCall_fn rfl E_fn90 (by simp [AV.pureL,AV.pure,hp]) (Nat.le_of_ble_eq_true rfl) rfl rfl,body_90,c90]
  simp [hp]
theorem part (i:Int) (h0:0 ≤ i) (h1:i < 4294967296):Con E 5 87 [.int .i64 i] (.agg [.int .u8 2,.bool false,.int .u32 i]):=by
  refine .of (g:=[]) rfl ?_
  rw [aCall_fn rfl E_fn87 rfl (Nat.le_of_ble_eq_true rfl) rfl rfl,body_87,c87]
  have w:i % 4294967296=i:=Int.emod_eq_of_lt h0 h1
  simp [w]
theorem elem_ab (a b:Int) (h:chkI a b=0) (ha:¬ a = -1) (hb:¬ b = -1) (la lb:List AV) (na nb:Nat) (pa:Con E 40 89 [.int .i64 a] (.sl false la (some na))) (pb:Con E 40 89 [.int .i64 b] (.sl false lb (some nb))) (qa:AV.pureL la=true) (qb:AV.pureL lb=true) :
    Con E 60 45 [.agg [.int .i64 a,.int .i64 b]] (.tup [elem (.sl false [sub 0 la na,sub 1 lb nb] (some 2)),.int .i64 0]):=by
  refine .of (g:=[]) rfl ?_
  rw [aCall_fn rfl E_fn45 rfl (Nat.le_of_ble_eq_true rfl) rfl rfl,body_45,c45]
  have h1:(a != -1)=true:=by simp [ha]
  have h2:(b != -1)=true:=by simp [hb]
  simp [QB.chk,h,h1,h2,pa,pb,part,qa,qb,o_glob,clipE,↓pn,SG.sl_g,SG.sealG,SG.sealYG]
theorem elem_a (a:Int) (h:chkI a (-1)=0) (ha:¬ a = -1) (la:List AV) (na:Nat) (pa:Con E 40 89 [.int .i64 a] (.sl false la (some na))) (qa:AV.pureL la=true) :
    Con E 60 45 [.agg [.int .i64 a,.int .i64 (-1)]] (.tup [elem (.sl false [sub 0 la na] (some 1)),.int .i64 0]):=by
  refine .of (g:=[]) rfl ?_
  rw [aCall_fn rfl E_fn45 rfl (Nat.le_of_ble_eq_true rfl) rfl rfl,body_45,c45]
  have h1:(a != -1)=true:=by simp [ha]
  simp [QB.chk,h,h1,pa,part,qa,o_glob,clipE,↓pn,SG.sl_g,SG.sealG,SG.sealYG]
theorem elem_b (b:Int) (h:chkI (-1) b=0) (hb:¬ b = -1) (lb:List AV) (nb:Nat) (pb:Con E 40 89 [.int .i64 b] (.sl false lb (some nb))) (qb:AV.pureL lb=true) :
    Con E 60 45 [.agg [.int .i64 (-1),.int .i64 b]] (.tup [elem (.sl false [sub 1 lb nb] (some 1)),.int .i64 0]):=by
  refine .of (g:=[]) rfl ?_
  rw [aCall_fn rfl E_fn45 rfl (Nat.le_of_ble_eq_true rfl) rfl rfl,body_45,c45]
  have h1:(b != -1)=true:=by simp [hb]
  simp [QB.chk,h,h1,pb,part,qb,o_glob,clipE,↓pn,SG.sl_g,SG.sealG,SG.sealYG]
end QC
end
end
section
open Ab Go TabE Sp E34 F1 Rw F5 F6 F7 F8 Q3 Q6 Q7 Q10
namespace Q12
abbrev tS:Int × Bool × Int:=(0,true,16)
abbrev l2:List Fld:=[⟨2,false,0,false,true⟩,⟨2,false,1,false,true⟩]
theorem mt_eq (x:Fld) (y:El) (h:x.any=false):F7.mt x y=true ↔ x.c=y.c ∧ x.k=y.k ∧ x.n=y.n:=by
  unfold F7.mt; rw [h]; simp
theorem cases5 (e:El) (o:List Int) (h:sq e tS l2=.inl o):(e.c=0 ∧ e.k=true ∧ e.n=16) ∧ ((e.s=[] ∧ o=[-1,-1]) ∨ (∃ x,e.s=[x] ∧ o=[0,-1] ∧ x.c=2 ∧ x.k=false ∧ x.n=0) ∨ (∃ x,e.s=[x] ∧ o=[-1,0] ∧ x.c=2 ∧ x.k=false ∧ x.n=1) ∨ ∃ x y,e.s=[x,y] ∧ o=[0,1] ∧ (x.c=2 ∧ x.k=false ∧ x.n=0) ∧ y.c=2 ∧ y.k=false ∧ y.n=1):=by
  obtain ⟨_,_,_,t1,t2,t3⟩:=F11.sq_ok h
  refine ⟨⟨t1,t2,t3⟩,?_⟩
  unfold sq at h
  rw [if_neg (by simp),if_neg (by simp [t1,t2,t3])] at h
  have A:=fun y => mt_eq ⟨2,false,0,false,true⟩ y rfl
  have B:=fun y => mt_eq ⟨2,false,1,false,true⟩ y rfl
  rcases hs:e.s with _ | ⟨x,_ | ⟨y,_ | ⟨z,r⟩⟩⟩
  · rw [hs] at h
    simp [sqr] at h
    exact .inl ⟨rfl,h.symm⟩
  · rw [hs] at h
    by_cases a:F7.mt ⟨2,false,0,false,true⟩ x=true
    · simp [sqr,a] at h
      have q:=(A x).1 a
      exact .inr (.inl ⟨x,rfl,h.symm,q.1.symm,q.2.1.symm,q.2.2.symm⟩)
    · by_cases b:F7.mt ⟨2,false,1,false,true⟩ x=true
      · simp [sqr,a,b] at h
        have q:=(B x).1 b
        exact .inr (.inr (.inl ⟨x,rfl,h.symm,q.1.symm,q.2.1.symm,q.2.2.symm⟩))
      · simp [sqr,a,b] at h
  · rw [hs] at h
    by_cases a:F7.mt ⟨2,false,0,false,true⟩ x=true
    · by_cases b:F7.mt ⟨2,false,1,false,true⟩ y=true
      · simp [sqr,a,b] at h
        have q:=(A x).1 a
        have q':=(B y).1 b
        exact .inr (.inr (.inr ⟨x,y,rfl,h.symm,⟨q.1.symm,q.2.1.symm,q.2.2.symm⟩,q'.1.symm,q'.2.1.symm,q'.2.2.symm⟩))
      · simp [sqr,a,b] at h
    · by_cases b:F7.mt ⟨2,false,1,false,true⟩ x=true
      · simp [sqr,a,b] at h
      · simp [sqr,a,b] at h
  · rw [hs] at h
    by_cases a:F7.mt ⟨2,false,0,false,true⟩ x=true
    · by_cases b:F7.mt ⟨2,false,1,false,true⟩ y=true
      · simp [sqr,a,b] at h <;> omega
      · simp [sqr,a,b] at h <;> omega
    · by_cases b:F7.mt ⟨2,false,1,false,true⟩ x=true
      · simp [sqr,a,b] at h <;> omega
      · simp [sqr,a,b] at h <;> omega
def pI (n:Int):List Int:=if n < 128 then [n % 256] else if n < 32768 then [n / 256 % 256,n % 256] else if n < 8388608 then [n / 65536 % 256,n / 256 % 256,n % 256] else [n / 16777216 % 256,n / 65536 % 256,n / 256 % 256,n % 256]
theorem putI (n:Int) (h0:0 ≤ n) (h1:n ≤ 2147483647):Con E 40 89 [.int .i64 n] (.sl false (bs (pI n)) (some (pI n).length)):=by
  unfold pI
  by_cases c1:n < 128
  · rw [if_pos c1]; exact QA.put1 n h0 c1
  rw [if_neg c1]
  by_cases c2:n < 32768
  · rw [if_pos c2]; exact QA.put2 n (by omega) c2
  rw [if_neg c2]
  by_cases c3:n < 8388608
  · rw [if_pos c3]; exact QA.put3 n (by omega) c3
  · rw [if_neg c3]; exact QA.put4 n (by omega) (by omega)
theorem back (b:List Int) (hb:isB b) (n:Int) (h:nu b=(n,0)):(0 ≤ n ∧ n ≤ 2147483647) ∧ pI n=b:=by
  unfold nu at h
  have h0:(gi b).2=0:=by
    by_cases q:(gi b).2=0
    · exact q
    · rw [if_pos q] at h; exact absurd (congrArg Prod.snd h) q
  rw [if_neg (by simp [h0])] at h
  have h1:¬ (gi b).1 < 0:=by
    intro q; rw [if_pos q] at h; cases h
  rw [if_neg h1] at h
  have h2:¬ 2147483647 < (gi b).1:=by
    intro q; rw [if_pos q] at h; cases h
  rw [if_neg h2] at h
  have hn:(gi b).1=n:=by cases h; rfl
  rw [hn] at h1 h2
  refine ⟨⟨by omega,by omega⟩,?_⟩
  unfold gi at h0 hn
  by_cases e1:b=[] ∨ sup b=true
  · rw [if_pos e1] at h0; cases h0
  rw [if_neg e1] at h0 hn
  by_cases e2:8 < b.length
  · rw [if_pos e2] at h0; cases h0
  rw [if_neg e2] at hn
  simp only at hn
  have hs:sup b=false:=by cases q:sup b; rfl; exact absurd (.inr q) e1
  have hB:=fun x hx => hb x hx
  unfold pI
  match b,e1,e2,hs,hB,hn with
  | [],e1,_,_,_,_ => exact absurd (.inl rfl) e1
  | [x0],_,_,_,hB,hn =>
    have b0:=hB x0 (by simp)
    simp [val,vs,si] at hn
    rw [if_pos (by split at hn <;> omega)]
    simp; split at hn <;> omega
  | [x0,x1],_,_,hs,hB,hn =>
    have b0:=hB x0 (by simp)
    have b1:=hB x1 (by simp)
    simp [sup] at hs
    simp [val,vs,si] at hn
    have c0:x0 < 128:=by split at hn <;> omega
    rw [if_pos c0] at hn
    by_cases q:n < 128
    · exfalso; have:x0=0:=by omega
      have:=hs.1 this; omega
    rw [if_neg q,if_pos (by omega)]
    simp; omega
  | [x0,x1,x2],_,_,hs,hB,hn =>
    have b0:=hB x0 (by simp)
    have b1:=hB x1 (by simp)
    have b2:=hB x2 (by simp)
    simp [sup] at hs
    simp [val,vs,si] at hn
    have c0:x0 < 128:=by split at hn <;> omega
    rw [if_pos c0] at hn
    by_cases q:n < 32768
    · exfalso; have:x0=0:=by omega
      have:=hs.1 this; omega
    rw [if_neg (by omega),if_neg q,if_pos (by omega)]
    simp; omega
  | [x0,x1,x2,x3],_,_,hs,hB,hn =>
    have b0:=hB x0 (by simp)
    have b1:=hB x1 (by simp)
    have b2:=hB x2 (by simp)
    have b3:=hB x3 (by simp)
    simp [sup] at hs
    simp [val,vs,si] at hn
    have c0:x0 < 128:=by split at hn <;> omega
    rw [if_pos c0] at hn
    by_cases q:n < 8388608
    · exfalso; have:x0=0:=by omega
      have:=hs.1 this; omega
    rw [if_neg (by omega),if_neg (by omega),if_neg q]
    simp; omega
  | x0 :: x1 :: x2 :: x3 :: x4 :: r,_,e2,hs,hB,hn =>
    exfalso
    have b0:=hB x0 (by simp)
    have b1:=hB x1 (by simp)
    have b2:=hB x2 (by simp)
    have b3:=hB x3 (by simp)
    have b4:=hB x4 (by simp)
    simp [sup] at hs
    match r,e2,hB,hn with
    | [],_,hB,hn =>
      simp [val,vs,si] at hn
      have c0:x0 < 128:=by split at hn <;> omega
      rw [if_pos c0] at hn
      have:x0=0:=by omega
      have:=hs.1 this; omega
    | [x5],_,hB,hn =>
      have b5:=hB x5 (by simp)
      simp [val,vs,si] at hn
      have c0:x0 < 128:=by split at hn <;> omega
      rw [if_pos c0] at hn
      have:x0=0:=by omega
      have:=hs.1 this; omega
    | [x5,x6],_,hB,hn =>
      have b5:=hB x5 (by simp)
      have b6:=hB x6 (by simp)
      simp [val,vs,si] at hn
      have c0:x0 < 128:=by split at hn <;> omega
      rw [if_pos c0] at hn
      have:x0=0:=by omega
      have:=hs.1 this; omega
    | [x5,x6,x7],_,hB,hn =>
      have b5:=hB x5 (by simp)
      have b6:=hB x6 (by simp)
      have b7:=hB x7 (by simp)
      simp [val,vs,si] at hn
      have c0:x0 < 128:=by split at hn <;> omega
      rw [if_pos c0] at hn
      have:x0=0:=by omega
      have:=hs.1 this; omega
    | x5 :: x6 :: x7 :: x8 :: r,e2,_,_ => simp at e2
end Q12
end
section
open Ab Go TabE
attribute [local simp ↓] s_seq s_reg s_regd s_cond s_block s_cons s_consG s_regD
attribute [local simp] s_nil s_loop s_round s_lpn s_lpe s_lpr firstReg s_gt s_gf s_wb s_wu s_val s_valN s_skip s_calls s_callP s_cax lookR flatR pureKs s_ret s_rgx s_sqn s_sqr s_sqe s_cdb s_bkn s_bkr s_bke s_exit s_ret' s_skip' s_finr s_finn s_fin1 s_fix s_clean s_gc0 o_tmp o_int o_bool o_nil o_str o_fn o_nil' l_hit l_miss l_nil ol_nil ol_cons ol_some x_move x_assign x_pick pk_t pk_f x_bin bn_s x_un x_extract x_callF cl_no x_callB x_callBF frzV x_conv cvx convA frame0 binA intOp resL resA results1 sealLW AV.pure AV.pureL keepT x_alloc x_box bxx x_build bdx x_buildSlice bsx x_buildSliceF bsf x_load ldx x_store stx x_slice slx x_fieldAddr x_field x_index ixx x_indexAddr iax x_makeSlice msx x_makeSliceF msf x_nilCheck newK genOf setK lookK fillA writeL writeC readC conts TyI.mk1 sliceA boundsA boundsB fitsA numA indexAddrA fieldAddrA partA fieldA indexA appendA copyA builtinA AV.cells chunk gcH reach keysT keepK inKs AV.keys AV.keysL Ty.isAgg eq1 eqL convA.go ltI w_u8 w_u32 w_u64 w_i64 w_fdiv w_tdiv w_tmod IntKind.bits unA sc_int sc_bool sc_str sc_sl sc_ref sc_ptr sc_pel sc_nilp sc_fn sc_nilf sc_if sc_nili sc_agg sc_tup sc_mem bs_pure bs_kl bs_length bs_cells bs_all sl_row sealRow sealY sl_int sl_bool sl_str sl_sl sl_nilp sl_nilf sl_nili sl_pel sl_agg sl_tup sl_fn sl_if nat_1 bs_cons bs_nil i_beq i_bne x_mkF x_mkI x_tassert x_panic s_pan s_sqp s_bkp s_finp s_fixp s_lpp s_rgp s_retp s_site s_stxN s_stxO x_callT clx El.avs_len s_dyn0 s_rgy barOf dynChk footL dynOK disjK keysOp opVals Op.operands
section
open Ab Go TabE Sp E34 F1 Rw F5 F6 F7 F8 Q3 Q6 Q7 Q10 Q12
namespace Q13
theorem under (i e:Int) (he:e ≠ 0):Con E 20 82 [.int .i64 i,fF [] e] (fF [i] e):=by
  refine con_of E_fn82 (by simp [AV.pureL,AV.pure]) (Nat.le_of_ble_eq_true rfl) rfl rfl (g:=[]) ?_
  rw [body_82,c82]
  simp [he]
theorem i0 (f a r c):∀ h,indexAddrA E 38 (.sl f (.int .i64 a :: r) c) (.int .i64 0) h=some (.pel [.int .i64 a]):=fun h => by
  simp [E_ty38,E_ty3]
theorem i1 (f a b r c):∀ h,indexAddrA E 38 (.sl f (a :: .int .i64 b :: r) c) (.int .i64 1) h=some (.pel [.int .i64 b]):=fun h => by
  have e:(1:Int) < (r.length:Int) + 1 + 1:=by omega
  simp [E_ty38,E_ty3,e]
abbrev Sq (K:Nat) (e:El) (v:AV):Prop:=∀ c h,aCall E K 0 69 [e.av,.agg [.int .u8 0,.bool true,.int .u32 16],.sl false [.agg [.int .u8 2,.bool false,.int .u32 0,.bool false,.bool true],.agg [.int .u8 2,.bool false,.int .u32 1,.bool false,.bool true]] c] h=some (.ret v,h)
abbrev Ck (K:Nat) (e:El) (w:Int):Prop:=∀ h,aCall E K 0 22 [e.av] h=some (.ret (.int .i64 w),h)
abbrev Nb (K:Nat) (x:El):Prop:=∀ h,aCall E K 0 88 [.sl x.fb (bs x.b) x.cb] h=some (.ret (.tup [.int .i64 (nu x.b).1,.int .i64 (nu x.b).2]),h)
abbrev R (a b:Int) (p:List Int) (w:Int):AV:=.tup [.agg [.int .i64 a,.int .i64 b],fF p w]
theorem chk (K:Nat) (e:El) (w:Int) (hw:w ≠ 0) (C:Ck K e w):Con E (K + 1) 42 [e.av] (R 0 0 [] w):=by
  refine con_of E_fn42 (by simp [AV.pureL,El.av_pure]) (Nat.le_of_ble_eq_true rfl) rfl rfl (g:=[]) ?_
  rw [body_42,c42]
  unfold Ck at C; rw [El.av_eq] at C ⊢
  simp [-s_round,C,hw]
theorem part (K:Nat) (hK:5 ≤ K) (i:Int) (h0:0 ≤ i) (h1:i < 4294967296):∀ h,aCall E K 0 87 [.int .i64 i] h=some (.ret (.agg [.int .u8 2,.bool false,.int .u32 i]),h):=QC.part i h0 h1 K hK 0
theorem seq (K:Nat) (hK:60 ≤ K) (e:El) (p:List Int) (w:Int) (hw:w ≠ 0) (C:Ck K e 0) (S:Sq K e (.tup [.sl true [] (some 0),fF p w])):Con E (K + 1) 42 [e.av] (R 0 0 p w):=by
  have p0:=part K (by omega) 0 (by omega) (by omega)
  have p1:=part K (by omega) 1 (by omega) (by omega)
  have np:=ns_pure p
  refine con_of E_fn42 (by simp [AV.pureL,El.av_pure]) (Nat.le_of_ble_eq_true rfl) rfl rfl (g:=[]) ?_
  rw [body_42,c42]
  unfold Ck at C; unfold Sq at S; rw [El.av_eq] at C S
  rw [El.av_eq]
  simp [-s_round,C,hw,S,p0,p1,QC.o_glob,np]
end Q13
end
end
section
open Ab Go TabE Sp E34 F1 Rw F5 F6 F7 F8 Q3 Q6 Q7 Q10 Q12 Q13
namespace Q14
abbrev Un (K:Nat) (i:Int) (w:Int):Prop:=∀ h,aCall E K 0 82 [.int .i64 i,.agg [.sl true [] (some 0),.int .i64 w]] h=some (.ret (.agg [.sl false [.int .i64 i] (some 1),.int .i64 w]),h)
theorem un (K:Nat) (hK:20 ≤ K) (i w:Int) (hw:w ≠ 0):Un K i w:=under i w hw K hK 0
abbrev qo (a b:Int):AV:=.tup [.sl false [.int .i64 a,.int .i64 b] (some 2),.agg [.sl true [] (some 0),.int .i64 0]]
theorem none_ (k:Nat) (hK:60 ≤ k) (e:El) (hs:e.s=[]) (C:Ck (k + 10) e 0) (S:Sq (k + 10) e (qo (-1) (-1))):Con E (k + 10 + 1) 42 [e.av] (R 0 0 [] 17):=by
  have p0:=part (k + 10) (by omega) 0 (by omega) (by omega)
  have p1:=part (k + 10) (by omega) 1 (by omega) (by omega)
  refine con_of E_fn42 (by simp [AV.pureL,El.av_pure]) (Nat.le_of_ble_eq_true rfl) rfl rfl (g:=[]) ?_
  rw [body_42,c42]
  unfold Ck at C; unfold Sq at S; rw [El.av_eq,hs] at C S
  rw [El.av_eq,hs]
  simp [El.avs] at C S
  simp [↓s_seq,↓s_reg,↓s_cond,↓s_cons,s_nil,s_val,s_skip,s_calls,s_callP,s_cax,s_ret,s_rgx,s_sqn,s_sqr,s_cdb,s_ret',s_skip',s_finr,s_fin1,s_fix,s_clean,o_tmp,o_int,o_bool,l_hit,l_miss,ol_nil,ol_cons,ol_some,x_move,x_assign,x_bin,bn_s,x_extract,x_callF,cl_no,x_callB,frame0,binA,intOp,resL,resA,results1,sealLW,AV.pure,AV.pureL,keepT,x_alloc,x_box,bxx,x_build,bdx,x_buildSliceF,bsf,x_load,ldx,x_store,stx,x_fieldAddr,newK,genOf,setK,lookK,fillA,writeL,writeC,readC,conts,TyI.mk1,fieldAddrA,appendA,copyA,builtinA,AV.cells,chunk,gcH,reach,keysT,keepK,inKs,AV.keys,AV.keysL,Ty.isAgg,sc_int,sc_bool,sc_sl,sl_agg,sl_tup,↓s_regD,s_rgy,barOf,dynChk,C,S,p0,p1,QC.o_glob,El.avs]
theorem one0 (k:Nat) (hK:60 ≤ k) (e x:El) (hs:e.s=[x]) (C:Ck (k + 10) e 0) (S:Sq (k + 10) e (qo 0 (-1))) (B:Nb (k + 10) x) (hw:(nu x.b).2=0):Con E (k + 10 + 1) 42 [e.av] (R (nu x.b).1 (-1) [] 0):=by
  have p0:=part (k + 10) (by omega) 0 (by omega) (by omega)
  have p1:=part (k + 10) (by omega) 1 (by omega) (by omega)
  have x0:=El.at_ e.fs e.cs [x] 0 x rfl
  simp [El.avs] at x0
  refine con_of E_fn42 (by simp [AV.pureL,El.av_pure]) (Nat.le_of_ble_eq_true rfl) rfl rfl (g:=[]) ?_
  rw [body_42,c42]
  unfold Ck at C; unfold Sq at S; rw [El.av_eq,hs] at C S
  rw [El.av_eq,hs]
  unfold Nb at B; rw [hw] at B
  simp [El.avs] at C S
  simp [↓s_seq,↓s_reg,↓s_cond,↓s_block,↓s_cons,s_nil,s_loop,s_round,s_lpn,s_lpe,firstReg,s_val,s_skip,s_calls,s_callP,s_cax,s_ret,s_rgx,s_sqn,s_sqe,s_cdb,s_bkn,s_bke,s_exit,s_ret',s_skip',s_finr,s_fin1,s_fix,s_clean,o_tmp,o_int,o_bool,l_hit,l_miss,ol_nil,ol_cons,ol_some,x_move,x_assign,x_bin,bn_s,x_extract,x_callF,cl_no,x_callB,frame0,binA,intOp,resL,resA,results1,sealLW,AV.pure,AV.pureL,keepT,x_alloc,x_box,bxx,x_build,bdx,x_buildSliceF,bsf,x_load,ldx,x_store,stx,x_fieldAddr,x_index,ixx,x_indexAddr,iax,x_nilCheck,newK,genOf,setK,lookK,fillA,writeL,writeC,readC,conts,TyI.mk1,fieldAddrA,partA,indexA,appendA,copyA,builtinA,AV.cells,chunk,gcH,reach,keysT,keepK,inKs,AV.keys,AV.keysL,Ty.isAgg,w_i64,sc_int,sc_bool,sc_sl,sc_ptr,sl_agg,sl_tup,i_beq,↓s_regD,s_rgy,barOf,dynChk,C,S,B,p0,p1,QC.o_glob,El.avs,i0,i1,x0]
theorem one0b (k:Nat) (hK:60 ≤ k) (e x:El) (hs:e.s=[x]) (C:Ck (k + 10) e 0) (S:Sq (k + 10) e (qo 0 (-1))) (B:Nb (k + 10) x) (hw:(nu x.b).2 ≠ 0):Con E (k + 10 + 1) 42 [e.av] (R 0 0 [0] (nu x.b).2):=by
  have p0:=part (k + 10) (by omega) 0 (by omega) (by omega)
  have p1:=part (k + 10) (by omega) 1 (by omega) (by omega)
  have U:=un (k + 10) (by omega) 0 _ hw
  have x0:=El.at_ e.fs e.cs [x] 0 x rfl
  simp [El.avs] at x0
  refine con_of E_fn42 (by simp [AV.pureL,El.av_pure]) (Nat.le_of_ble_eq_true rfl) rfl rfl (g:=[]) ?_
  rw [body_42,c42]
  unfold Ck at C; unfold Sq at S; rw [El.av_eq,hs] at C S
  rw [El.av_eq,hs]
  unfold Nb at B; unfold Un at U
  simp [El.avs] at C S
  simp [↓s_seq,↓s_reg,↓s_cond,↓s_block,↓s_cons,s_nil,s_loop,s_round,s_lpr,firstReg,s_val,s_skip,s_calls,s_callP,s_cax,s_ret,s_rgx,s_sqn,s_sqr,s_cdb,s_bkr,s_ret',s_skip',s_finr,s_fin1,s_fix,s_clean,o_tmp,o_int,o_bool,l_hit,l_miss,ol_nil,ol_cons,ol_some,x_move,x_assign,x_bin,bn_s,x_extract,x_callF,cl_no,x_callB,frame0,binA,intOp,resL,resA,results1,sealLW,AV.pure,AV.pureL,keepT,x_alloc,x_box,bxx,x_build,bdx,x_buildSliceF,bsf,x_load,ldx,x_store,stx,x_fieldAddr,x_index,ixx,x_indexAddr,iax,newK,genOf,setK,lookK,fillA,writeL,writeC,readC,conts,TyI.mk1,fieldAddrA,partA,indexA,appendA,copyA,builtinA,AV.cells,chunk,gcH,reach,keysT,keepK,inKs,AV.keys,AV.keysL,Ty.isAgg,sc_int,sc_bool,sc_sl,sc_ptr,sl_int,sl_agg,sl_tup,i_beq,i_bne,↓s_regD,s_rgy,barOf,dynChk,C,S,B,U,hw,p0,p1,QC.o_glob,El.avs,i0,x0]
theorem one1 (k:Nat) (hK:60 ≤ k) (e x:El) (hs:e.s=[x]) (C:Ck (k + 10) e 0) (S:Sq (k + 10) e (qo (-1) 0)) (B:Nb (k + 10) x) (hw:(nu x.b).2=0):Con E (k + 10 + 1) 42 [e.av] (R (-1) (nu x.b).1 [] 0):=by
  have p0:=part (k + 10) (by omega) 0 (by omega) (by omega)
  have p1:=part (k + 10) (by omega) 1 (by omega) (by omega)
  have x0:=El.at_ e.fs e.cs [x] 0 x rfl
  simp [El.avs] at x0
  refine con_of E_fn42 (by simp [AV.pureL,El.av_pure]) (Nat.le_of_ble_eq_true rfl) rfl rfl (g:=[]) ?_
  rw [body_42,c42]
  unfold Ck at C; unfold Sq at S; rw [El.av_eq,hs] at C S
  rw [El.av_eq,hs]
  unfold Nb at B; rw [hw] at B
  simp [El.avs] at C S
  simp [↓s_seq,↓s_reg,↓s_cond,↓s_block,↓s_cons,s_nil,s_loop,s_round,s_lpn,s_lpe,firstReg,s_val,s_skip,s_calls,s_callP,s_cax,s_ret,s_rgx,s_sqn,s_sqe,s_cdb,s_bkn,s_bke,s_exit,s_ret',s_skip',s_finr,s_fin1,s_fix,s_clean,o_tmp,o_int,o_bool,l_hit,l_miss,ol_nil,ol_cons,ol_some,x_move,x_assign,x_bin,bn_s,x_extract,x_callF,cl_no,x_callB,frame0,binA,intOp,resL,resA,results1,sealLW,AV.pure,AV.pureL,keepT,x_alloc,x_box,bxx,x_build,bdx,x_buildSliceF,bsf,x_load,ldx,x_store,stx,x_fieldAddr,x_index,ixx,x_indexAddr,iax,x_nilCheck,newK,genOf,setK,lookK,fillA,writeL,writeC,readC,conts,TyI.mk1,fieldAddrA,partA,indexA,appendA,copyA,builtinA,AV.cells,chunk,gcH,reach,keysT,keepK,inKs,AV.keys,AV.keysL,Ty.isAgg,w_i64,sc_int,sc_bool,sc_sl,sc_ptr,sl_agg,sl_tup,i_beq,↓s_regD,s_rgy,barOf,dynChk,C,S,B,p0,p1,QC.o_glob,El.avs,i0,i1,x0]
theorem one1b (k:Nat) (hK:60 ≤ k) (e x:El) (hs:e.s=[x]) (C:Ck (k + 10) e 0) (S:Sq (k + 10) e (qo (-1) 0)) (B:Nb (k + 10) x) (hw:(nu x.b).2 ≠ 0):Con E (k + 10 + 1) 42 [e.av] (R 0 0 [0] (nu x.b).2):=by
  have p0:=part (k + 10) (by omega) 0 (by omega) (by omega)
  have p1:=part (k + 10) (by omega) 1 (by omega) (by omega)
  have U:=un (k + 10) (by omega) 0 _ hw
  have x0:=El.at_ e.fs e.cs [x] 0 x rfl
  simp [El.avs] at x0
  refine con_of E_fn42 (by simp [AV.pureL,El.av_pure]) (Nat.le_of_ble_eq_true rfl) rfl rfl (g:=[]) ?_
  rw [body_42,c42]
  unfold Ck at C; unfold Sq at S; rw [El.av_eq,hs] at C S
  rw [El.av_eq,hs]
  unfold Nb at B; unfold Un at U
  simp [El.avs] at C S
  simp [↓s_seq,↓s_reg,↓s_cond,↓s_block,↓s_cons,s_nil,s_loop,s_round,s_lpn,s_lpr,firstReg,s_val,s_skip,s_calls,s_callP,s_cax,s_ret,s_rgx,s_sqn,s_sqr,s_sqe,s_cdb,s_bkr,s_bke,s_exit,s_ret',s_skip',s_finr,s_fin1,s_fix,s_clean,o_tmp,o_int,o_bool,l_hit,l_miss,ol_nil,ol_cons,ol_some,x_move,x_assign,x_bin,bn_s,x_extract,x_callF,cl_no,x_callB,frame0,binA,intOp,resL,resA,results1,sealLW,AV.pure,AV.pureL,keepT,x_alloc,x_box,bxx,x_build,bdx,x_buildSliceF,bsf,x_load,ldx,x_store,stx,x_fieldAddr,x_index,ixx,x_indexAddr,iax,newK,genOf,setK,lookK,fillA,writeL,writeC,readC,conts,TyI.mk1,fieldAddrA,partA,indexA,appendA,copyA,builtinA,AV.cells,chunk,gcH,reach,keysT,keepK,inKs,AV.keys,AV.keysL,Ty.isAgg,w_i64,sc_int,sc_bool,sc_sl,sc_ptr,sl_int,sl_agg,sl_tup,i_beq,i_bne,↓s_regD,s_rgy,barOf,dynChk,C,S,B,U,hw,p0,p1,QC.o_glob,El.avs,i0,i1,x0]
theorem two (k:Nat) (hK:60 ≤ k) (e x y:El) (hs:e.s=[x,y]) (C:Ck (k + 10) e 0) (S:Sq (k + 10) e (qo 0 1)) (B:Nb (k + 10) x) (B':Nb (k + 10) y) (hw:(nu x.b).2=0) (hw':(nu y.b).2=0):Con E (k + 10 + 1) 42 [e.av] (R (nu x.b).1 (nu y.b).1 [] 0):=by
  have p0:=part (k + 10) (by omega) 0 (by omega) (by omega)
  have p1:=part (k + 10) (by omega) 1 (by omega) (by omega)
  have x0:=El.at_ e.fs e.cs [x,y] 0 x rfl
  have x1:=El.at_ e.fs e.cs [x,y] 1 y rfl
  simp [El.avs] at x0 x1
  refine con_of E_fn42 (by simp [AV.pureL,El.av_pure]) (Nat.le_of_ble_eq_true rfl) rfl rfl (g:=[]) ?_
  rw [body_42,c42]
  unfold Ck at C; unfold Sq at S; rw [El.av_eq,hs] at C S
  rw [El.av_eq,hs]
  unfold Nb at B B'; rw [hw] at B; rw [hw'] at B'
  simp [El.avs] at C S
  simp [↓s_seq,↓s_reg,↓s_cond,↓s_block,↓s_cons,s_nil,s_loop,s_round,s_lpn,s_lpe,firstReg,s_val,s_skip,s_calls,s_callP,s_cax,s_ret,s_rgx,s_sqn,s_sqe,s_cdb,s_bkn,s_bke,s_exit,s_ret',s_skip',s_finr,s_fin1,s_fix,s_clean,o_tmp,o_int,o_bool,l_hit,l_miss,ol_nil,ol_cons,ol_some,x_move,x_assign,x_bin,bn_s,x_extract,x_callF,cl_no,x_callB,frame0,binA,intOp,resL,resA,results1,sealLW,AV.pure,AV.pureL,keepT,x_alloc,x_box,bxx,x_build,bdx,x_buildSliceF,bsf,x_load,ldx,x_store,stx,x_fieldAddr,x_index,ixx,x_indexAddr,iax,x_nilCheck,newK,genOf,setK,lookK,fillA,writeL,writeC,readC,conts,TyI.mk1,fieldAddrA,partA,indexA,appendA,copyA,builtinA,AV.cells,chunk,gcH,reach,keysT,keepK,inKs,AV.keys,AV.keysL,Ty.isAgg,w_i64,sc_int,sc_bool,sc_sl,sc_ptr,sl_agg,sl_tup,i_beq,↓s_regD,s_rgy,barOf,dynChk,C,S,B,B',p0,p1,QC.o_glob,El.avs,i0,i1,x0,x1]
theorem twoA (k:Nat) (hK:60 ≤ k) (e x y:El) (hs:e.s=[x,y]) (C:Ck (k + 10) e 0) (S:Sq (k + 10) e (qo 0 1)) (B:Nb (k + 10) x) (hw:(nu x.b).2 ≠ 0):Con E (k + 10 + 1) 42 [e.av] (R 0 0 [0] (nu x.b).2):=by
  have p0:=part (k + 10) (by omega) 0 (by omega) (by omega)
  have p1:=part (k + 10) (by omega) 1 (by omega) (by omega)
  have U:=un (k + 10) (by omega) 0 _ hw
  have x0:=El.at_ e.fs e.cs [x,y] 0 x rfl
  simp [El.avs] at x0
  refine con_of E_fn42 (by simp [AV.pureL,El.av_pure]) (Nat.le_of_ble_eq_true rfl) rfl rfl (g:=[]) ?_
  rw [body_42,c42]
  unfold Ck at C; unfold Sq at S; rw [El.av_eq,hs] at C S
  rw [El.av_eq,hs]
  unfold Nb at B; unfold Un at U
  simp [El.avs] at C S
  simp [↓s_seq,↓s_reg,↓s_cond,↓s_block,↓s_cons,s_nil,s_loop,s_round,s_lpr,firstReg,s_val,s_skip,s_calls,s_callP,s_cax,s_ret,s_rgx,s_sqn,s_sqr,s_cdb,s_bkr,s_ret',s_skip',s_finr,s_fin1,s_fix,s_clean,o_tmp,o_int,o_bool,l_hit,l_miss,ol_nil,ol_cons,ol_some,x_move,x_assign,x_bin,bn_s,x_extract,x_callF,cl_no,x_callB,frame0,binA,intOp,resL,resA,results1,sealLW,AV.pure,AV.pureL,keepT,x_alloc,x_box,bxx,x_build,bdx,x_buildSliceF,bsf,x_load,ldx,x_store,stx,x_fieldAddr,x_index,ixx,x_indexAddr,iax,newK,genOf,setK,lookK,fillA,writeL,writeC,readC,conts,TyI.mk1,fieldAddrA,partA,indexA,appendA,copyA,builtinA,AV.cells,chunk,gcH,reach,keysT,keepK,inKs,AV.keys,AV.keysL,Ty.isAgg,sc_int,sc_bool,sc_sl,sc_ptr,sl_int,sl_agg,sl_tup,i_beq,i_bne,↓s_regD,s_rgy,barOf,dynChk,C,S,B,U,hw,p0,p1,QC.o_glob,El.avs,i0,x0]
theorem twoB (k:Nat) (hK:60 ≤ k) (e x y:El) (hs:e.s=[x,y]) (C:Ck (k + 10) e 0) (S:Sq (k + 10) e (qo 0 1)) (B:Nb (k + 10) x) (B':Nb (k + 10) y) (hw:(nu x.b).2=0) (hw':(nu y.b).2 ≠ 0):Con E (k + 10 + 1) 42 [e.av] (R 0 0 [1] (nu y.b).2):=by
  have p0:=part (k + 10) (by omega) 0 (by omega) (by omega)
  have p1:=part (k + 10) (by omega) 1 (by omega) (by omega)
  have U:=un (k + 10) (by omega) 1 _ hw'
  have x0:=El.at_ e.fs e.cs [x,y] 0 x rfl
  have x1:=El.at_ e.fs e.cs [x,y] 1 y rfl
  simp [El.avs] at x0 x1
  refine con_of E_fn42 (by simp [AV.pureL,El.av_pure]) (Nat.le_of_ble_eq_true rfl) rfl rfl (g:=[]) ?_
  rw [body_42,c42]
  unfold Ck at C; unfold Sq at S; rw [El.av_eq,hs] at C S
  rw [El.av_eq,hs]
  unfold Nb at B B'; rw [hw] at B; unfold Un at U
  simp [El.avs] at C S
  simp [↓s_seq,↓s_reg,↓s_cond,↓s_block,↓s_cons,s_nil,s_loop,s_round,s_lpn,s_lpr,firstReg,s_val,s_skip,s_calls,s_callP,s_cax,s_ret,s_rgx,s_sqn,s_sqr,s_cdb,s_bkn,s_bkr,s_ret',s_skip',s_finr,s_fin1,s_fix,s_clean,o_tmp,o_int,o_bool,l_hit,l_miss,ol_nil,ol_cons,ol_some,x_move,x_assign,x_bin,bn_s,x_extract,x_callF,cl_no,x_callB,frame0,binA,intOp,resL,resA,results1,sealLW,AV.pure,AV.pureL,keepT,x_alloc,x_box,bxx,x_build,bdx,x_buildSliceF,bsf,x_load,ldx,x_store,stx,x_fieldAddr,x_index,ixx,x_indexAddr,iax,x_nilCheck,newK,genOf,setK,lookK,fillA,writeL,writeC,readC,conts,TyI.mk1,fieldAddrA,partA,indexA,appendA,copyA,builtinA,AV.cells,chunk,gcH,reach,keysT,keepK,inKs,AV.keys,AV.keysL,Ty.isAgg,w_i64,sc_int,sc_bool,sc_sl,sc_ptr,sl_int,sl_agg,sl_tup,i_beq,i_bne,↓s_regD,s_rgy,barOf,dynChk,C,S,B,B',U,hw',p0,p1,QC.o_glob,El.avs,i0,i1,x0,x1]
end Q14
end
