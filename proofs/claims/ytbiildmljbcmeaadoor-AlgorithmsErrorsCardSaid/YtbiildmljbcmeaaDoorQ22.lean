/- oids.Get at the evaluator. No conditions. -/
import Derived.Test.YtbiildmljbcmeaaDoorF2
import Derived.Test.YtbiildmljbcmeaaDoorOI
open Ab Go TabE Sp E40
set_option maxRecDepth 20000
set_option linter.unusedSimpArgs false
set_option linter.unusedVariables false
set_option maxHeartbeats 8000000
namespace Q22
def b:Code:=lp c66 0
def u32s (l:List Int):List AV:=l.map (AV.int .u32)
theorem u32s_pure:∀ l:List Int,AV.pureL (u32s l)=true
  | [] => rfl
  | x :: r => by have:=u32s_pure r; simpa [u32s,AV.pureL,AV.pure] using this
theorem u32s_keys (l):AV.keysL (u32s l)=[]:=AV.keysL_pure _ (u32s_pure l)
abbrev zo:List AV:=[.int .u8 0,.int .u32 0,.int .u32 0,.int .u32 0,.int .u32 0,.int .u32 0,.int .u32 0,.int .u32 0,.int .u32 0,.int .u32 0,.int .u32 0,.int .u32 0,.int .u32 0,.int .u32 0,.int .u32 0,.int .u32 0,.int .u32 0]
def oc (ds:List Int):List AV:=u32s (0 :: (ds ++ List.replicate (15 - ds.length) 0))
theorem oc_keys (ds):AV.keysL (oc ds)=[]:=u32s_keys _
theorem oc_len (ds:List Int) (h:ds.length ≤ 15):(oc ds).length=16:=by unfold oc u32s; simp; omega
theorem oc_set (ds:List Int) (v:Int) (h:ds.length < 15):(oc ds).take (ds.length + 1) ++ AV.int .u32 v :: (oc ds).drop (ds.length + 1 + 1)=oc (ds ++ [v]):=by
  unfold oc u32s
  obtain ⟨m,hm⟩:∃ m,15 - ds.length=m + 1:=⟨14 - ds.length,by omega⟩
  have hm2:15 - (ds ++ [v]).length=m:=by simp; omega
  rw [hm,hm2,List.map_cons,List.take_succ_cons,List.drop_succ_cons,List.map_append,List.take_left' (by simp),← List.drop_drop,List.drop_left' (by simp),List.replicate_succ]
  simp
abbrev S (ds:List Int) (v:Int) (s:Bool) (f:Bool) (r:List Int) (c:Option Nat) (i:Nat):St:=⟨[(2,.ptr (1,2,0) 0),(4,.ptr (1,4,0) 0),(5,.int .u64 v),(6,.bool s),(14,.sl f (bs r) c),(15,.int .i64 (r.length:Int)),(16,.int .i64 (i:Int))],[((1,2,0),bx zo),((1,4,0),bx (.int .u8 ((ds.length:Int) + 1) :: oc ds))]⟩
theorem and127 (x:Int) (x0:0 ≤ x) (x1:x < 256):((BitVec.ofInt 8 x &&& 127#8).toNat:Int)=x % 128:=by
  have:∀ n:Fin 256,((BitVec.ofInt 8 (n.val:Int) &&& 127#8).toNat:Int)=(n.val:Int) % 128:=by decide +kernel
  obtain ⟨n,rfl⟩:=Int.eq_ofNat_of_zero_le x0
  exact this ⟨n,by omega⟩
theorem or7 (a y:Int) (a0:0 ≤ a) (a1:a ≤ 4294967295) (y0:0 ≤ y) (y1:y < 128):((BitVec.ofInt 64 (a * 128) ||| BitVec.ofInt 64 y).toNat:Int)=128 * a + y:=by
  obtain ⟨m,rfl⟩:=Int.eq_ofNat_of_zero_le a0
  obtain ⟨k,rfl⟩:=Int.eq_ofNat_of_zero_le y0
  have e1:BitVec.ofInt 64 ((m:Int) * 128)=BitVec.ofNat 64 (2 ^ 7 * m):=by
    rw [show ((m:Int) * 128)=((2 ^ 7 * m:Nat):Int) from by simp; omega]
    exact BitVec.ofInt_natCast ..
  have e2:BitVec.ofInt 64 (k:Int)=BitVec.ofNat 64 k:=BitVec.ofInt_natCast ..
  rw [e1,e2,BitVec.toNat_or,BitVec.toNat_ofNat,BitVec.toNat_ofNat,Nat.mod_eq_of_lt (by omega),Nat.mod_eq_of_lt (by omega),← Nat.two_pow_add_eq_or_of_lt (by omega)]
  omega
theorem g1 (x:Int) (x0:0 ≤ x) (x1:x < 256):intOp .and .u8 x 127=some (.int .u8 (x % 128)):=by
  show some (AV.int .u8 (IntKind.u8.wrap (((BitVec.ofInt 8 x &&& 127#8).toNat:Nat):Int)))=_
  rw [and127 x x0 x1]
  simp [w_u8]
  omega
theorem g2 (v y:Int) (v0:0 ≤ v) (v1:v ≤ 4294967295) (y0:0 ≤ y) (y1:y < 128):intOp .or .u64 (v * 128) y=some (.int .u64 (128 * v + y)):=by
  show some (AV.int .u64 (IntKind.u64.wrap (((BitVec.ofInt 64 (v * 128) ||| BitVec.ofInt 64 y).toNat:Nat):Int)))=_
  rw [or7 v y v0 v1 y0 y1]
  simp [w_u64]
  omega
abbrev Err (w:Int):Option (AExit × St):=some (.ret,⟨[(2,.ptr (1,2,0) 0),(3,.int .i64 w)],[((1,2,0),bx zo)]⟩)
theorem hi_ (q k1:Nat) (ds:List Int) (v:Int) (f:Bool) (c:Option Nat) (r:List Int) (x:Int) (i:Nat) (hx:r[i]? = some x) (hl:r.length ≤ 1000) (x0:0 ≤ x) (x1:x < 256) (v0:0 ≤ v) (v1:v ≤ 4294967295) (hd:ds.length ≤ 15) (s:Bool) (n1:s=true → ds.length < 15) (n2:s=true → ¬ x=128) (n3:¬ 4294967295 < 128 * v + x % 128) (n4:¬ x < 128) :
    rnd fn66 b q k1 (S ds v s f r c i)=some (.normal,S ds (128 * v + x % 128) false f r c (i + 1)):=by
  have hi:i < r.length:=(List.getElem?_eq_some_iff.1 hx).1
  have ix:=byte_at f c r i x hx
  have w:=w64' ((i:Int) + 1) (by omega) (by omega)
  have h1:=g1 x x0 x1
  have h2:=g2 v (x % 128) v0 v1 (by omega) (by omega)
  have h3:x % 128 % 18446744073709551616=x % 128:=by omega
  have h4:v * 128 % 18446744073709551616=v * 128:=by omega
  have h5:(128 * v + x % 128) % 18446744073709551616=128 * v + x % 128:=by omega
  have ok:=oc_keys ds
  cases s with
  | false => simp [b,lp,lps,c66,↓s_seq,↓s_reg,↓s_cond,↓s_block,↓s_cons,↓s_consG,s_nil,firstReg,s_gf,s_wb,s_val,s_rgx,s_sqn,s_cdb,s_bkn,s_skip',s_clean,o_tmp,o_int,o_bool,l_hit,l_miss,x_move,x_assign,x_pick,pk_f,x_bin,bn_s,x_conv,cvx,convA,binA,intOp,keepT,x_load,ldx,x_fieldAddr,x_indexAddr,iax,lookK,readC,conts,TyI.mk1,fieldAddrA,gcH,reach,keysT,keepK,inKs,AV.keys,AV.keysL,Ty.isAgg,w_u64,IntKind.bits,-intOp,ix,w,hi,h1,h2,h3,h4,n3,n4,ok]
  | true =>
    have m1:¬ (ds.length:Int) + 1=16:=by have:=n1 rfl; omega
    have m2:¬ x=128:=n2 rfl
    simp [b,lp,lps,c66,↓s_seq,↓s_reg,↓s_cond,↓s_block,↓s_cons,↓s_consG,s_nil,firstReg,s_gt,s_wb,s_val,s_rgx,s_sqn,s_cdb,s_bkn,s_skip',s_clean,o_tmp,o_int,l_hit,l_miss,x_move,x_assign,x_pick,pk_t,x_bin,bn_s,x_conv,cvx,convA,binA,intOp,keepT,x_load,ldx,x_fieldAddr,x_indexAddr,iax,lookK,readC,conts,TyI.mk1,fieldAddrA,gcH,reach,keysT,keepK,inKs,AV.keys,AV.keysL,Ty.isAgg,w_u64,IntKind.bits,i_beq,-intOp,ix,w,hi,h1,h2,h3,h4,n3,n4,ok,m1,m2]
theorem low (q k1:Nat) (ds:List Int) (v:Int) (f:Bool) (c:Option Nat) (r:List Int) (x:Int) (i:Nat) (hx:r[i]? = some x) (hl:r.length ≤ 1000) (x0:0 ≤ x) (x1:x < 256) (v0:0 ≤ v) (v1:v ≤ 4294967295) (hd:ds.length ≤ 15) (s:Bool) (n1:s=true → ds.length < 15) (n1':ds.length < 15) (n2:s=true → ¬ x=128) (n3:¬ 4294967295 < 128 * v + x % 128) (n4:x < 128) :
    rnd fn66 b q k1 (S ds v s f r c i)=some (.normal,S (ds ++ [128 * v + x % 128]) 0 true f r c (i + 1)):=by
  have hi:i < r.length:=(List.getElem?_eq_some_iff.1 hx).1
  have ix:=byte_at f c r i x hx
  have w:=w64' ((i:Int) + 1) (by omega) (by omega)
  have h1:=g1 x x0 x1
  have h2:=g2 v (x % 128) v0 v1 (by omega) (by omega)
  have h3:x % 128 % 18446744073709551616=x % 128:=by omega
  have h4:v * 128 % 18446744073709551616=v * 128:=by omega
  have h5:(128 * v + x % 128) % 18446744073709551616=128 * v + x % 128:=by omega
  have h6:(128 * v + x % 128) % 4294967296=128 * v + x % 128:=by omega
  have h7:((ds.length:Int) + 1 + 1) % 256=(ds.length:Int) + 1 + 1:=by omega
  have ok:=oc_keys ds
  have ok2:=oc_keys (ds ++ [128 * v + x % 128])
  have ol:=oc_len ds hd
  have os:=oc_set ds (128 * v + x % 128) n1'
  have ia:∀ h,indexAddrA E 33 (.ptr (1,4,0) 1) (.int .u8 ((ds.length:Int) + 1)) h=some (.ptr (1,4,0) (ds.length + 1 + 1)):=fun h => by
    have e:(ds.length:Int) + 1 < 16:=by omega
    have e2:0 ≤ (ds.length:Int) + 1:=by omega
    have e3:((ds.length:Int) + 1).toNat=ds.length + 1:=by omega
    simp [indexAddrA,E_ty33,E_ty23,e,e2,e3]
    omega
  have l1:ds.length + 1 < 16:=by omega
  have l2:ds.length + 1 ≤ 16:=by omega
  have l3:ds.length ≤ 14:=by omega
  have l4:ds.length < 15:=by omega
  cases s with
  | false => simp [b,lp,lps,c66,↓s_seq,↓s_reg,↓s_cond,↓s_block,↓s_cons,↓s_consG,s_nil,firstReg,s_gf,s_wb,s_val,s_skip,s_rgx,s_sqn,s_cdb,s_bkn,s_skip',s_clean,o_tmp,o_int,o_bool,l_hit,l_miss,x_move,x_assign,x_pick,pk_f,x_bin,bn_s,x_conv,cvx,convA,binA,intOp,keepT,x_load,ldx,x_store,stx,x_fieldAddr,x_indexAddr,iax,setK,lookK,writeL,writeC,readC,conts,TyI.mk1,fieldAddrA,AV.cells,gcH,reach,keysT,keepK,inKs,AV.keys,AV.keysL,Ty.isAgg,w_u8,w_u32,w_u64,IntKind.bits,sc_int,-intOp,ix,ia,w,hi,h1,h2,h3,h4,h6,h7,n3,n4,ok,ok2,ol,os,l3]
  | true =>
    have m1:¬ (ds.length:Int) + 1=16:=by have:=n1 rfl; omega
    have m2:¬ x=128:=n2 rfl
    simp [b,lp,lps,c66,↓s_seq,↓s_reg,↓s_cond,↓s_block,↓s_cons,↓s_consG,s_nil,firstReg,s_gt,s_wb,s_val,s_skip,s_rgx,s_sqn,s_cdb,s_bkn,s_skip',s_clean,o_tmp,o_int,l_hit,l_miss,x_move,x_assign,x_pick,pk_t,x_bin,bn_s,x_conv,cvx,convA,binA,intOp,keepT,x_load,ldx,x_store,stx,x_fieldAddr,x_indexAddr,iax,setK,lookK,writeL,writeC,readC,conts,TyI.mk1,fieldAddrA,AV.cells,gcH,reach,keysT,keepK,inKs,AV.keys,AV.keysL,Ty.isAgg,w_u8,w_u32,w_u64,IntKind.bits,sc_int,i_beq,-intOp,ix,ia,w,hi,h1,h2,h3,h4,h6,h7,n3,n4,ok,ok2,ol,os,m1,m2,l3]
theorem e1 (q k1:Nat) (ds:List Int) (v:Int) (f:Bool) (c:Option Nat) (r:List Int) (x:Int) (i:Nat) (hx:r[i]? = some x) (hl:r.length ≤ 1000) (x0:0 ≤ x) (x1:x < 256) (v0:0 ≤ v) (v1:v ≤ 4294967295) (hd:ds.length ≤ 15) (n1:ds.length=15):rnd fn66 b q k1 (S ds v true f r c i)=Err 3:=by
  have hi:i < r.length:=(List.getElem?_eq_some_iff.1 hx).1
  have ix:=byte_at f c r i x hx
  have ok:=oc_keys ds
  simp [b,lp,lps,c66,↓s_seq,↓s_reg,↓s_cond,↓s_block,↓s_cons,↓s_consG,s_nil,firstReg,s_gt,s_wb,s_val,s_skip,s_rgx,s_sqn,s_sqr,s_cdb,s_bkr,s_ret',s_skip',s_clean,o_tmp,o_int,l_hit,l_miss,ol_nil,x_move,x_assign,x_pick,pk_t,x_bin,bn_s,binA,intOp,keepT,x_build,bdx,x_load,ldx,x_store,stx,x_fieldAddr,x_indexAddr,iax,setK,lookK,fillA,writeL,writeC,readC,TyI.mk1,fieldAddrA,AV.cells,gcH,reach,keysT,keepK,inKs,AV.keys,AV.keysL,Ty.isAgg,sc_int,ix,hi,ok,n1]
theorem e2 (q k1:Nat) (ds:List Int) (v:Int) (f:Bool) (c:Option Nat) (r:List Int) (x:Int) (i:Nat) (hx:r[i]? = some x) (hl:r.length ≤ 1000) (x0:0 ≤ x) (x1:x < 256) (v0:0 ≤ v) (v1:v ≤ 4294967295) (hd:ds.length ≤ 15) (n1:ds.length < 15) (n2:x=128):rnd fn66 b q k1 (S ds v true f r c i)=Err 11:=by
  subst n2
  have hi:i < r.length:=(List.getElem?_eq_some_iff.1 hx).1
  have ix:=byte_at f c r i 128 hx
  have ok:=oc_keys ds
  have m1:¬ (ds.length:Int) + 1=16:=by omega
  simp [b,lp,lps,c66,↓s_seq,↓s_reg,↓s_cond,↓s_block,↓s_cons,↓s_consG,s_nil,firstReg,s_gt,s_wb,s_val,s_skip,s_rgx,s_sqn,s_sqr,s_cdb,s_bkr,s_ret',s_skip',s_clean,o_tmp,o_int,l_hit,l_miss,ol_nil,x_move,x_assign,x_pick,pk_t,x_bin,bn_s,binA,intOp,keepT,x_build,bdx,x_load,ldx,x_store,stx,x_fieldAddr,x_indexAddr,iax,setK,lookK,fillA,writeL,writeC,readC,TyI.mk1,fieldAddrA,AV.cells,gcH,reach,keysT,keepK,inKs,AV.keys,AV.keysL,Ty.isAgg,sc_int,i_beq,ix,hi,ok,m1]
theorem e3 (q k1:Nat) (ds:List Int) (v:Int) (f:Bool) (c:Option Nat) (r:List Int) (x:Int) (i:Nat) (hx:r[i]? = some x) (hl:r.length ≤ 1000) (x0:0 ≤ x) (x1:x < 256) (v0:0 ≤ v) (v1:v ≤ 4294967295) (hd:ds.length ≤ 15) (s:Bool) (n1:s=true → ds.length < 15) (n2:s=true → ¬ x=128) (n3:4294967295 < 128 * v + x % 128):rnd fn66 b q k1 (S ds v s f r c i)=Err 3:=by
  have hi:i < r.length:=(List.getElem?_eq_some_iff.1 hx).1
  have ix:=byte_at f c r i x hx
  have h1:=g1 x x0 x1
  have h2:=g2 v (x % 128) v0 v1 (by omega) (by omega)
  have h3:x % 128 % 18446744073709551616=x % 128:=by omega
  have h4:v * 128 % 18446744073709551616=v * 128:=by omega
  have h5:(128 * v + x % 128) % 18446744073709551616=128 * v + x % 128:=by omega
  have ok:=oc_keys ds
  cases s with
  | false => simp [b,lp,lps,c66,↓s_seq,↓s_reg,↓s_cond,↓s_block,↓s_cons,↓s_consG,s_nil,firstReg,s_gf,s_wb,s_val,s_skip,s_rgx,s_sqn,s_sqr,s_cdb,s_bkn,s_bkr,s_ret',s_skip',s_clean,o_tmp,o_int,o_bool,l_hit,l_miss,ol_nil,x_move,x_assign,x_pick,pk_f,x_bin,bn_s,x_conv,cvx,convA,binA,intOp,keepT,x_build,bdx,x_load,ldx,x_store,stx,x_fieldAddr,x_indexAddr,iax,setK,lookK,fillA,writeL,writeC,readC,conts,TyI.mk1,fieldAddrA,AV.cells,gcH,reach,keysT,keepK,inKs,AV.keys,AV.keysL,Ty.isAgg,w_u64,IntKind.bits,sc_int,-intOp,ix,hi,h1,h2,h3,h4,n3,ok]
  | true =>
    have m1:¬ (ds.length:Int) + 1=16:=by have:=n1 rfl; omega
    have m2:¬ x=128:=n2 rfl
    simp [b,lp,lps,c66,↓s_seq,↓s_reg,↓s_cond,↓s_block,↓s_cons,↓s_consG,s_nil,firstReg,s_gt,s_wb,s_val,s_skip,s_rgx,s_sqn,s_sqr,s_cdb,s_bkn,s_bkr,s_ret',s_skip',s_clean,o_tmp,o_int,l_hit,l_miss,ol_nil,x_move,x_assign,x_pick,pk_t,x_bin,bn_s,x_conv,cvx,convA,binA,intOp,keepT,x_build,bdx,x_load,ldx,x_store,stx,x_fieldAddr,x_indexAddr,iax,setK,lookK,fillA,writeL,writeC,readC,conts,TyI.mk1,fieldAddrA,AV.cells,gcH,reach,keysT,keepK,inKs,AV.keys,AV.keysL,Ty.isAgg,w_u64,IntKind.bits,sc_int,i_beq,-intOp,ix,hi,h1,h2,h3,h4,n3,ok,m1,m2]
abbrev Out (ds:List Int) (v:Int) (s:Bool) (f:Bool) (r:List Int) (c:Option Nat):AExit × St:=(.exit 0,⟨(S ds v s f r c r.length).t ++ [(17,.bool false)],(S ds v s f r c r.length).h⟩)
theorem last (q k1:Nat) (ds:List Int) (v:Int) (s:Bool) (f r c):rnd fn66 b q k1 (S ds v s f r c r.length)=some (Out ds v s f r c):=by
  have ok:=oc_keys ds
  simp [b,lp,lps,c66,↓s_seq,↓s_reg,↓s_cond,↓s_cons,s_nil,firstReg,s_val,s_rgx,s_sqn,s_sqe,s_cdb,s_exit,s_clean,o_tmp,l_hit,l_miss,x_bin,bn_s,binA,intOp,keepT,lookK,gcH,reach,keysT,keepK,inKs,AV.keys,AV.keysL,ok]
abbrev Lp (K:Nat):=aLoop (aCode E (aCall E K) (dcall (aRun E K)) K 1 fn66 b) (cleanS 1 ((firstReg b).bind fn66.head))
def En (f:Bool) (r:List Int) (c:Option Nat):Int ⊕ (List Int × Int × Bool) → AExit × St
  | .inl e => (.ret,⟨[(2,.ptr (1,2,0) 0),(3,.int .i64 e)],[((1,2,0),bx zo)]⟩)
  | .inr (ds,v,s) => Out ds v s f r c
theorem loop (K:Nat) (f:Bool) (r:List Int) (c:Option Nat) (hb:∀ y ∈ r,0 ≤ y ∧ y < 256) (hl:r.length ≤ 1000):∀ (t ds:List Int) (v:Int) (s:Bool) (i k:Nat),r.drop i=t → i ≤ r.length → ds.length ≤ 15 → (s=false → ds.length < 15) → 0 ≤ v → v ≤ 4294967295 → t.length < k →
    Lp K k (S ds v s f r c i)=some (En f r c (OH.run t ds v s))
  | [],ds,v,s,i,k,h1,hi,hd,hd2,v0,v1,hk => by
    obtain ⟨k,rfl⟩:∃ j,k=j + 1:=⟨k - 1,by omega⟩
    have q:=congrArg List.length h1
    rw [List.length_drop,List.length_nil] at q
    obtain rfl:i=r.length:=by omega
    exact aLoop_end (last K K ds v s f r c) (fun h => by cases h)
  | x :: t,ds,v,s,i,k,h1,hi,hd,hd2,v0,v1,hk => by
    obtain ⟨k,rfl⟩:∃ j,k=j + 1:=⟨k - 1,by omega⟩
    have hx:r[i]? = some x:=by
      have:=congrArg (fun l => l[0]?) h1
      simpa [List.getElem?_drop] using this
    have ht:r.drop (i + 1)=t:=by
      have:=congrArg List.tail h1
      simpa [List.tail_drop] using this
    have q:=congrArg List.length h1
    rw [List.length_drop,List.length_cons] at q
    obtain ⟨x0,x1⟩:=hb x (List.mem_of_getElem? hx)
    unfold OH.run OH.step
    by_cases c1:s=true ∧ ds.length=15
    · rw [if_pos c1]
      obtain ⟨rfl,c1⟩:=c1
      exact aLoop_end (e1 K K ds v f c r x i hx hl x0 x1 v0 v1 hd c1) (fun h => by cases h)
    rw [if_neg c1]
    have n1:s=true → ds.length < 15:=fun h => by
      have:¬ ds.length=15:=fun q => c1 ⟨h,q⟩
      omega
    by_cases c2:s=true ∧ x=128
    · rw [if_pos c2]
      obtain ⟨rfl,c2⟩:=c2
      exact aLoop_end (e2 K K ds v f c r x i hx hl x0 x1 v0 v1 hd (n1 rfl) c2) (fun h => by cases h)
    rw [if_neg c2]
    have n2:s=true → ¬ x=128:=fun h q => c2 ⟨h,q⟩
    have hlt:ds.length < 15:=by
      cases s with
      | false => exact hd2 rfl
      | true => exact n1 rfl
    by_cases c3:4294967295 < 128 * v + x % 128
    · rw [if_pos c3]
      exact aLoop_end (e3 K K ds v f c r x i hx hl x0 x1 v0 v1 hd s n1 n2 c3) (fun h => by cases h)
    rw [if_neg c3]
    unfold Lp
    by_cases c4:x < 128
    · rw [if_pos c4,aLoop_succ (low K K ds v f c r x i hx hl x0 x1 v0 v1 hd s n1 hlt n2 c3 c4)]
      exact loop K f r c hb hl t _ 0 true (i + 1) k ht (by omega) (by simp; omega) (fun h => by cases h) (by omega) (by omega) (by simp at hk; omega)
    · rw [if_neg c4,aLoop_succ (hi_ K K ds v f c r x i hx hl x0 x1 v0 v1 hd s n1 n2 c3 c4)]
      exact loop K f r c hb hl t ds _ false (i + 1) k ht (by omega) hd (fun _ => hlt) (by omega) (by omega) (by simp at hk; omega)
theorem get (f:Bool) (c:Option Nat) (r:List Int) (hb:∀ y ∈ r,0 ≤ y ∧ y < 256) (hl:r.length ≤ 1000):∃ N,Con E N 66 [.sl f (bs r) c] (.tup [.agg (.int .u8 (OH.get r).1 :: u32s (OH.get r).2.1),.int .i64 (OH.get r).2.2]):=by
  by_cases h0:r=[]
  · subst h0
    refine ⟨21,con_of E_fn66 (by simp [AV.pureL,AV.pure]) (Nat.le_of_ble_eq_true rfl) rfl rfl (g:=[]) ?_⟩
    rw [body_66,c66]
    simp [↓s_seq,↓s_reg,↓s_cond,↓s_cons,s_nil,s_val,s_skip,s_rgx,s_sqn,s_sqr,s_cdb,s_ret',s_finr,s_fin1,s_fix,s_clean,o_tmp,o_int,l_hit,l_miss,ol_nil,ol_cons,ol_some,x_move,x_assign,x_bin,bn_s,x_callB,frame0,binA,intOp,resL,resA,results1,AV.pure,AV.pureL,keepT,x_alloc,x_build,bdx,x_store,stx,newK,genOf,setK,lookK,fillA,writeL,writeC,readC,conts,TyI.mk1,appendA,copyA,builtinA,AV.cells,gcH,reach,keysT,keepK,inKs,AV.keys,AV.keysL,Ty.isAgg,sc_int,sl_tup,bs_nil,OH.get,u32s]
  obtain ⟨K,hK⟩:∃ K,r.length + 20=K:=⟨_,rfl⟩
  have L:=loop K f r c hb hl r [] 0 true 0 K rfl (by omega) (by simp) (by simp) (by omega) (by omega) (by omega)
  refine ⟨K + 1,con_of E_fn66 (by simp [AV.pureL,AV.pure]) (Nat.le_of_ble_eq_true rfl) rfl rfl (g:=[]) ?_⟩
  have rp:¬ (r.length:Int)=0:=by have:=List.length_pos_iff.2 h0; omega
  rw [body_66,c66]
  unfold OH.get
  rw [if_neg h0]
  cases hr:OH.run r [] 0 true with
  | inl e =>
    rw [hr] at L
    simp [Lp,b,lp,lps,c66,firstReg,S,bx,oc,u32s,En] at L
    simp [↓s_seq,↓s_reg,↓s_cond,↓s_block,↓s_cons,s_nil,s_loop,firstReg,s_val,s_skip,s_rgx,s_sqn,s_sqr,s_cdb,s_bkr,s_skip',s_finr,s_fin1,s_fix,s_clean,o_tmp,o_int,o_bool,l_hit,l_miss,ol_nil,ol_cons,ol_some,x_move,x_assign,x_bin,bn_s,x_callB,frame0,binA,intOp,resL,resA,results1,AV.pure,AV.pureL,keepT,x_alloc,x_build,bdx,x_store,stx,newK,genOf,setK,lookK,fillA,writeL,writeC,readC,conts,TyI.mk1,appendA,copyA,builtinA,AV.cells,gcH,reach,keysT,keepK,inKs,AV.keys,AV.keysL,Ty.isAgg,sc_int,bs_length,sl_tup,i_beq,L,h0,u32s]
  | inr z =>
    obtain ⟨ds,v,s⟩:=z
    have dl:=OH.run_len r [] 0 true ds v s (by simp) (by simp) hr
    rw [hr] at L
    have ok:=oc_keys ds
    have e0:oc []=[.int .u32 0,.int .u32 0,.int .u32 0,.int .u32 0,.int .u32 0,.int .u32 0,.int .u32 0,.int .u32 0,.int .u32 0,.int .u32 0,.int .u32 0,.int .u32 0,.int .u32 0,.int .u32 0,.int .u32 0,.int .u32 0]:=rfl
    simp only
    cases s with
    | false =>
      simp [Lp,b,lp,lps,c66,firstReg,S,bx,e0,En,Out] at L
      simp [↓s_seq,↓s_reg,↓s_cond,↓s_block,↓s_cons,s_nil,s_loop,firstReg,s_val,s_skip,s_rgx,s_sqn,s_sqr,s_cdb,s_bke,s_ret',s_skip',s_finr,s_fin1,s_fix,s_clean,o_tmp,o_int,o_bool,l_hit,l_miss,ol_nil,ol_cons,ol_some,x_move,x_assign,x_bin,bn_s,x_un,x_callB,frame0,binA,intOp,resL,resA,results1,AV.pure,AV.pureL,keepT,x_alloc,x_build,bdx,x_store,stx,newK,genOf,setK,lookK,fillA,writeL,writeC,readC,conts,TyI.mk1,appendA,copyA,builtinA,AV.cells,gcH,reach,keysT,keepK,inKs,AV.keys,AV.keysL,Ty.isAgg,unA,sc_int,bs_length,sl_tup,i_beq,L,h0,u32s,ok]
    | true =>
      rw [if_pos rfl]
      cases ds with
      | nil =>
        exact absurd (OH.run_ne' r [] 0 true [] v true h0 hr) (by simp)
      | cons d ds =>
        obtain ⟨p',_,_,q3,_⟩:=OH.run_ok r [] 0 true [] (d :: ds) v true hb (by simp) (by simp) (by simp) (by simp) (by simp) rfl (by simp) hr
        obtain ⟨d0,d1⟩:=q3 d (by simp)
        have e2:u32s (OH.arcs (d :: ds))=.int .u32 (min (d / 40) 2) :: .int .u32 (d - 40 * min (d / 40) 2) :: u32s (ds ++ List.replicate (14 - ds.length) 0):=rfl
        have e:oc (d :: ds)=.int .u32 0 :: .int .u32 d :: u32s (ds ++ List.replicate (14 - ds.length) 0):=by
          show _ :: _ :: u32s (ds ++ List.replicate (15 - (ds.length + 1)) 0)=_
          rw [show 15 - (ds.length + 1)=14 - ds.length from by omega]
        have k2:=u32s_keys (ds ++ List.replicate (14 - ds.length) 0)
        have k3:=u32s_pure (ds ++ List.replicate (14 - ds.length) 0)
        have k4:(u32s (ds ++ List.replicate (14 - ds.length) 0)).length=14:=by
          have:=dl.1
          simp at this
          unfold u32s
          simp
          omega
        have k5:(u32s (ds ++ List.replicate (14 - ds.length) 0)).take 14=u32s (ds ++ List.replicate (14 - ds.length) 0):=List.take_of_length_le (by omega)
        have k6:∀ x ∈ u32s (ds ++ List.replicate (14 - ds.length) 0),x.scal=true:=fun x hx => by
          obtain ⟨z,_,rfl⟩:=List.mem_map.1 hx
          rfl
        have q3:(if 2 < d / 40 then (2:Int) else d / 40)=min (d / 40) 2:=by split <;> omega
        have q4:(d - 40 * min (d / 40) 2) % 4294967296=d - 40 * min (d / 40) 2:=by omega
        obtain ⟨m,hm⟩:∃ m,min (d / 40) 2=m:=⟨_,rfl⟩
        rw [hm] at e2 q3 q4
        obtain ⟨rs,hrs⟩:∃ rs,u32s (ds ++ List.replicate (14 - ds.length) 0)=rs:=⟨_,rfl⟩
        rw [hrs] at e e2 k2 k3 k4 k5 k6
        rw [e2]
        have q1:d.tdiv 40=d / 40:=Int.tdiv_eq_ediv_of_nonneg d0
        have q2:d / 40 % 4294967296=d / 40:=by omega
        simp [Lp,b,lp,lps,c66,firstReg,S,bx,En,Out,e,e0] at L
        simp [↓s_seq,↓s_reg,↓s_cond,↓s_block,↓s_cons,s_nil,s_loop,firstReg,s_val,s_skip,s_rgx,s_sqn,s_cdb,s_bke,s_skip',s_clean,o_tmp,o_int,o_bool,l_hit,l_miss,ol_nil,ol_cons,ol_some,x_move,x_assign,x_bin,bn_s,x_un,x_callB,frame0,binA,intOp,keepT,x_alloc,x_build,bdx,x_load,ldx,x_store,stx,x_fieldAddr,x_indexAddr,iax,newK,genOf,setK,lookK,fillA,writeL,writeC,readC,conts,TyI.mk1,indexAddrA,fieldAddrA,appendA,copyA,builtinA,AV.cells,gcH,reach,keysT,keepK,inKs,AV.keys,AV.keysL,Ty.isAgg,w_u32,unA,sc_int,bs_length,i_beq,L,h0,k2,k4,k5,q1,q2,q3,q4]
        rw [if_pos k6]
        simp [↓s_cons,s_nil,s_val,s_skip,s_rgx,s_sqn,s_ret',s_finr,s_fin1,s_fix,s_clean,o_int,l_hit,l_miss,x_assign,resL,resA,results1,AV.pure,AV.pureL,keepT,lookK,readC,TyI.mk1,gcH,reach,keysT,keepK,inKs,AV.keys,AV.keysL,Ty.isAgg,sl_tup,k2,k3,k4,k5]
end Q22
