/- Own work, no conditions. -/
import Derived.Test.YtbiildmljbcmeaaDoorF10
import Derived.Test.YtbiildmljbcmeaaDoorE40
set_option maxRecDepth 20000
set_option linter.unusedSimpArgs false
set_option linter.unusedVariables false
set_option maxHeartbeats 16000000
section
open Ab Go TabE Sp E40
namespace Sp
inductive Rr where
  | ok (c:Cr) (n:Nat) (m:Int)
  | bad (a:Int) (e:Int)
mutual
def rd:Nat → List Int → Nat → Nat → Int → Int → Rr
  | 0,_,_,_,_,_ => .bad 0 7
  | f + 1,b,a,e,d,m =>
    if (gt ((b.take e).drop a)).2.2=7 then .bad e 7
    else if (gt ((b.take e).drop a)).2.2 ≠ 0 then .bad a (gt ((b.take e).drop a)).2.2
    else if 16 < d then .bad a 12
    else if m=8192 then .bad a 3
    else if (gl ((b.take e).drop (a + (gt ((b.take e).drop a)).2.1.toNat))).2.2=7 then .bad e 7
    else if (gl ((b.take e).drop (a + (gt ((b.take e).drop a)).2.1.toNat))).2.2 ≠ 0 then .bad ((a + (gt ((b.take e).drop a)).2.1.toNat:Nat):Int) (gl ((b.take e).drop (a + (gt ((b.take e).drop a)).2.1.toNat))).2.2
    else if e < a + (gt ((b.take e).drop a)).2.1.toNat + (gl ((b.take e).drop (a + (gt ((b.take e).drop a)).2.1.toNat))).2.1.toNat + (gl ((b.take e).drop (a + (gt ((b.take e).drop a)).2.1.toNat))).1.toNat then .bad e 7
    else
      let p:=a + (gt ((b.take e).drop a)).2.1.toNat + (gl ((b.take e).drop (a + (gt ((b.take e).drop a)).2.1.toNat))).2.1.toNat
      let q:=p + (gl ((b.take e).drop (a + (gt ((b.take e).drop a)).2.1.toNat))).1.toNat
      if (gt ((b.take e).drop a)).1.2.1=false then .ok (.mk (gt ((b.take e).drop a)).1.1 false (gt ((b.take e).drop a)).1.2.2 ((b.take q).drop p) []) q (m + 1)
      else match rds f b p q (d + 1) (m + 1) with
        | .inl (s,m') => .ok (.mk (gt ((b.take e).drop a)).1.1 true (gt ((b.take e).drop a)).1.2.2 [] s) q m'
        | .inr (x,y) => .bad x y
def rds:Nat → List Int → Nat → Nat → Int → Int → (List Cr × Int) ⊕ (Int × Int)
  | 0,_,_,_,_,_ => .inr (0,7)
  | f + 1,b,a,e,d,m => if e ≤ a then .inl ([],m) else
    match rd f b a e d m with
    | .bad x y => .inr (x,y)
    | .ok c a' m' => match rds f b a' e d m' with
      | .inl (s,m'') => .inl (c :: s,m'')
      | .inr r => .inr r
end
theorem rd_eq {f:Nat} {b:List Int} {a e:Nat} {d m:Int} {c:Int} {k:Bool} {n:Int} {tl:Nat} {te:Int} {L:Int} {ll:Nat} {le:Int} (h1:gt ((b.take e).drop a)=((c,k,n),(tl:Int),te)) (h2:gl ((b.take e).drop (a + tl))=(L,(ll:Int),le)) :
    rd (f + 1) b a e d m=if te=7 then .bad e 7 else if te ≠ 0 then .bad a te else if 16 < d then .bad a 12 else if m=8192 then .bad a 3 else if le=7 then .bad e 7 else if le ≠ 0 then .bad ((a + tl:Nat):Int) le else if e < a + tl + ll + L.toNat then .bad e 7
      else if k=false then .ok (.mk c false n ((b.take (a + tl + ll + L.toNat)).drop (a + tl + ll)) []) (a + tl + ll + L.toNat) (m + 1)
      else match rds f b (a + tl + ll) (a + tl + ll + L.toNat) (d + 1) (m + 1) with
        | .inl (s,m') => .ok (.mk c true n [] s) (a + tl + ll + L.toNat) m'
        | .inr (x,y) => .bad x y:=by
  rw [rd]
  simp only [h1,Int.toNat_natCast,h2]
theorem rd_tag {f:Nat} {b:List Int} {a e:Nat} {d m:Int} (h:(gt ((b.take e).drop a)).2.2 ≠ 0):rd (f + 1) b a e d m=if (gt ((b.take e).drop a)).2.2=7 then .bad e 7 else .bad a (gt ((b.take e).drop a)).2.2:=by
  by_cases q:(gt ((b.take e).drop a)).2.2=7
  · rw [rd,if_pos q,if_pos q]
  · rw [rd,if_neg q,if_pos h,if_neg q]
mutual
def okc:Cr → Prop
  | .mk c _ n b s => 0 ≤ c ∧ 0 ≤ n ∧ isB b ∧ okcs s
def okcs:List Cr → Prop
  | [] => True
  | x :: r => okc x ∧ okcs r
end
theorem tkdr {α:Type} (b:List α) {p q e:Nat} (h1:p ≤ q) (h2:q ≤ e):(b.take q).drop p=((b.take e).drop p).take (q - p):=by
  rw [List.drop_take,List.drop_take,List.take_take]
  congr 1; omega
theorem xs_len {α:Type} (b:List α) {a e:Nat} (h:e ≤ b.length):((b.take e).drop a).length=e - a:=by rw [List.length_drop,List.length_take]; omega
theorem enc_len2 (c:Cr):2 ≤ (enc c).length:=by
  cases c with
  | mk c k n b s =>
    rw [enc,List.length_append,List.length_append]
    have:=(tagO_len c k n).1
    have:=(lenO_len ((b ++ encs s).length:Int)).1
    omega
structure Rok (b:List Int) (a e:Nat) (d m:Int) (c:Cr) (a':Nat) (m':Int):Prop where
  o:okc c
  v:vld c
  x:(b.take a').drop a=enc c
  l:a < a'
  r:a' ≤ e
  n:m'=m + cnt c
  k:m' ≤ 8192
  d:d + dep c ≤ 17
structure Roks (b:List Int) (a e:Nat) (d m:Int) (s:List Cr) (m':Int):Prop where
  o:okcs s
  v:vlds s
  x:(b.take e).drop a=encs s
  n:m'=m + cnts s
  k:m' ≤ 8192
  d:d + deps s ≤ 17
theorem drop_at {b:List Int} {a p e:Nat} (h1:a ≤ p) (h2:p ≤ e):(b.take e).drop a=(b.take p).drop a ++ (b.take e).drop p:=by
  have:(b.take e).drop a=((b.take e).drop a).take (p - a) ++ ((b.take e).drop a).drop (p - a):=(List.take_append_drop _ _).symm
  rw [this,← tkdr b h1 h2,List.drop_drop]
  congr 2; omega
theorem back:∀ f:Nat,(∀ (b:List Int) (a e:Nat) (d m:Int) (c:Cr) (a':Nat) (m':Int),isB b → e ≤ b.length → a ≤ e → m ≤ 8192 → rd f b a e d m=.ok c a' m' → Rok b a e d m c a' m') ∧
    (∀ (b:List Int) (a e:Nat) (d m:Int) (s:List Cr) (m':Int),isB b → e ≤ b.length → a ≤ e → m ≤ 8192 → d ≤ 17 → rds f b a e d m=.inl (s,m') → Roks b a e d m s m'):=by
  intro f
  induction f with
  | zero => exact ⟨fun b a e d m c a' m' _ _ _ _ h => by simp [rd] at h,fun b a e d m s m' _ _ _ _ _ h => by simp [rds] at h⟩
  | succ f ih =>
    obtain ⟨ih1,ih2⟩:=ih
    refine ⟨fun b a e d m c a' m' hb he ha hm h => ?_,fun b a e d m s m' hb he ha hm hd h => ?_⟩
    · have xb:isB ((b.take e).drop a):=fun y hy => hb y (List.mem_of_mem_take (List.mem_of_mem_drop hy))
      obtain ⟨te,hte⟩:∃ te,(gt ((b.take e).drop a)).2.2=te:=⟨_,rfl⟩
      by_cases te0:te=0
      case neg =>
        rw [rd_tag (by rw [hte]; exact te0)] at h
        split at h <;> cases h
      subst te0
      obtain ⟨⟨⟨tc,tk,tn⟩,ts,te'⟩,hg⟩:∃ g,gt ((b.take e).drop a)=g:=⟨_,rfl⟩
      have hz:te'=0:=by rw [hg] at hte; exact hte
      subst hz
      obtain ⟨r,x1,rfl,t1,t2,t3⟩:=gt_back _ xb tc tk tn ts hg
      have xl:=xs_len b (a:=a) he
      rw [x1,List.length_append] at xl
      have tl1:=(tagO_len tc tk tn).1
      have x2:(b.take e).drop (a + (TG.tagO tc tk tn).length)=r:=by rw [← List.drop_drop,x1,List.drop_left']; rfl
      have rb:isB r:=fun y hy => xb y (by rw [x1]; simp [hy])
      obtain ⟨⟨L,lS,le⟩,hl⟩:∃ g,gl ((b.take e).drop (a + (TG.tagO tc tk tn).length))=g:=⟨_,rfl⟩
      have hl2:=hl
      rw [x2] at hl2
      by_cases le0:le=0
      case neg =>
        have:=gl_n r (by rw [hl2]; exact le0)
        rw [hl2] at this
        simp only [Prod.mk.injEq] at this
        obtain ⟨rfl,rfl,_⟩:=this
        rw [rd_eq (ll:=0) hg hl] at h
        rw [if_neg (by omega),if_neg (by simp)] at h
        split at h
        · cases h
        split at h
        · cases h
        split at h
        · cases h
        first | cases h | (rw [if_pos le0] at h; cases h)
      subst le0
      obtain ⟨r2,x3,rfl,l1,l2⟩:=gl_back r rb L lS hl2
      rw [rd_eq hg hl] at h
      rw [if_neg (by omega),if_neg (by simp)] at h
      by_cases hd:16 < d
      · rw [if_pos hd] at h; cases h
      rw [if_neg hd] at h
      by_cases hm2:m=8192
      · rw [if_pos hm2] at h; cases h
      rw [if_neg hm2,if_neg (by omega),if_neg (by simp)] at h
      obtain ⟨n,rfl⟩:=Int.eq_ofNat_of_zero_le l1
      rw [Int.toNat_natCast] at h
      generalize hp:a + (TG.tagO tc tk tn).length + (lenO (n:Int)).length=p at h
      by_cases hq:e < p + n
      · rw [if_pos hq] at h; cases h
      rw [if_neg hq] at h
      rw [x3,List.length_append] at xl
      have ll1:=(lenO_len (n:Int)).1
      have x4:(b.take p).drop a=TG.tagO tc tk tn ++ lenO (n:Int):=by
        rw [tkdr b (e:=e) (by omega) (by omega),x1,x3,← List.append_assoc,List.take_left']
        rw [List.length_append]; omega
      have cl:((b.take (p + n)).drop p).length=n:=by rw [xs_len b (by omega)]; omega
      have cb:isB ((b.take (p + n)).drop p):=fun y hy => hb y (List.mem_of_mem_take (List.mem_of_mem_drop hy))
      have key:(b.take (p + n)).drop a=TG.tagO tc tk tn ++ (lenO (((b.take (p + n)).drop p).length:Int) ++ (b.take (p + n)).drop p):=by
        rw [drop_at (p:=p) (by omega) (by omega),x4,cl,List.append_assoc]
      cases tk with
      | false =>
        rw [if_pos rfl] at h
        cases h
        refine ⟨?_,?_,?_,by omega,by omega,by simp [cnt,cnts],by omega,by simp [dep,deps]; omega⟩
        · unfold okc; exact ⟨t2,t3,cb,trivial⟩
        · unfold vld; exact ⟨t1,fun q => absurd q (by decide),fun _ => rfl,trivial⟩
        · rw [enc,encs,List.append_nil]; exact key
      | true =>
        rw [if_neg (by simp)] at h
        cases hr:rds f b p (p + n) (d + 1) (m + 1) with
        | inr y => rw [hr] at h; obtain ⟨y1,y2⟩:=y; cases h
        | inl y =>
          obtain ⟨s,mm⟩:=y
          rw [hr] at h
          cases h
          have R:=ih2 b p (p + n) (d + 1) (m + 1) s _ hb (by omega) (by omega) (by omega) (by omega) hr
          refine ⟨?_,?_,?_,by omega,by omega,by rw [R.n,cnt]; omega,R.k,?_⟩
          · unfold okc; exact ⟨t2,t3,isB_nil,R.o⟩
          · unfold vld; exact ⟨t1,fun _ => rfl,fun q => absurd q (by decide),R.v⟩
          · rw [enc,List.nil_append,← R.x]; exact key
          · have:=R.d; unfold dep; omega
    · rw [rds] at h
      by_cases q:e ≤ a
      · rw [if_pos q] at h
        cases h
        obtain rfl:a=e:=by omega
        exact ⟨trivial,trivial,by rw [encs,List.drop_eq_nil_of_le]; rw [List.length_take]; omega,by simp [cnts],hm,by simp [deps]; omega⟩
      rw [if_neg q] at h
      cases hr:rd f b a e d m with
      | bad x y => rw [hr] at h; cases h
      | ok c a' mm =>
        rw [hr] at h
        simp only at h
        have R:=ih1 b a e d m c a' mm hb he ha hm hr
        cases hr2:rds f b a' e d mm with
        | inr y => rw [hr2] at h; cases h
        | inl y =>
          obtain ⟨s2,m2⟩:=y
          rw [hr2] at h
          cases h
          have R2:=ih2 b a' e d mm s2 m' hb he R.r R.k hd hr2
          refine ⟨⟨R.o,R2.o⟩,⟨R.v,R2.v⟩,?_,by rw [R2.n,R.n,cnts]; omega,R2.k,?_⟩
          · rw [drop_at (p:=a') (by have:=R.l; omega) R.r,R.x,R2.x,encs]
          · have a1:=R.d
            have a2:=R2.d
            unfold deps; omega
theorem rd_back (f:Nat) (b:List Int) (a e:Nat) (d m:Int) (c:Cr) (a':Nat) (m':Int) (hb:isB b) (he:e ≤ b.length) (ha:a ≤ e) (hm:m ≤ 8192) (h:rd f b a e d m=.ok c a' m'):Rok b a e d m c a' m':=(back f).1 b a e d m c a' m' hb he ha hm h
theorem bad_ne:∀ f:Nat,(∀ (b:List Int) (a e:Nat) (d m:Int) (x y:Int),rd f b a e d m=.bad x y → y ≠ 0) ∧ (∀ (b:List Int) (a e:Nat) (d m:Int) (x y:Int),rds f b a e d m=.inr (x,y) → y ≠ 0):=by
  intro f
  induction f with
  | zero => exact ⟨fun b a e d m x y h => by rw [rd] at h; cases h; decide,fun b a e d m x y h => by rw [rds] at h; cases h; decide⟩
  | succ f ih =>
    refine ⟨fun b a e d m x y h => ?_,fun b a e d m x y h => ?_⟩
    · rw [rd] at h
      split at h
      · cases h; decide
      split at h
      · cases h; assumption
      split at h
      · cases h; decide
      split at h
      · cases h; decide
      split at h
      · cases h; decide
      split at h
      · cases h; assumption
      split at h
      · cases h; decide
      simp only at h
      split at h
      · cases h
      split at h
      · cases h
      · rename_i hq; cases h; exact ih.2 _ _ _ _ _ _ _ hq
    · rw [rds] at h
      split at h
      · cases h
      split at h
      · rename_i hq; cases h; exact ih.1 _ _ _ _ _ _ _ hq
      · split at h
        · cases h
        · rename_i hq; cases h; exact ih.2 _ _ _ _ _ _ _ hq
mutual
def dec1:Cr → El
  | .mk c k n b s => .mk c k n k b (some b.length) s.isEmpty (decs1 s) (some s.length)
def decs1:List Cr → List El
  | [] => []
  | x :: r => dec1 x :: decs1 r
end
mutual
theorem dec1_core:∀ c:Cr,(dec1 c).core=c
  | .mk c k n b s => by rw [dec1,El.core,decs1_core s]
theorem decs1_core:∀ s:List Cr,El.cores (decs1 s)=s
  | [] => rfl
  | x :: r => by rw [decs1,El.cores,dec1_core x,decs1_core r]
end
theorem decs1_len:∀ s:List Cr,(decs1 s).length=s.length
  | [] => rfl
  | x :: r => by rw [decs1,List.length_cons,decs1_len r]; rfl
end Sp
end
section
open Ab Go TabE Sp
namespace E50
theorem lget (f:Bool) (c:Option Nat) (xs:List Int) (hb:isB xs):Con E 10 154 [.sl f (bs xs) c] (.tup [.int .i64 (gl xs).1,.int .i64 (gl xs).2.1,.int .i64 (gl xs).2.2]):=by
  have use:∀ v:Int × Int × Int,gl xs=v → Con E 10 154 [.sl f (bs xs) c] (.tup [.int .i64 v.1,.int .i64 v.2.1,.int .i64 v.2.2]) → Con E 10 154 [.sl f (bs xs) c] (.tup [.int .i64 (gl xs).1,.int .i64 (gl xs).2.1,.int .i64 (gl xs).2.2]):=fun v e h => by rw [e]; exact h
  match xs,hb with
  | [],_ => exact P7.get_A f c
  | x :: r,hb =>
    have hx:=hb x (by simp)
    by_cases a:x ≤ 127
    · exact use (x,1,0) (by rw [gl_cons,if_pos a]) (P7.get_B f c x r hx.1 a)
    by_cases b:x=128
    · subst b; exact use (0,0,10) (by simp [gl_cons]) (P7.get_C0 f c r)
    by_cases b2:131 < x
    · exact use (0,0,10) (by simp [gl_cons,a,b2]) (P7.get_C1 f c x r (by omega) (by omega))
    by_cases c1:x=129
    · subst c1
      match r,hb with
      | [],_ => exact P7.get_D1 f c
      | y :: r,hb =>
        have hy:=hb y (by simp)
        by_cases d:y ≤ 127
        · by_cases y0:y=0
          · subst y0; exact use (0,0,10) (by simp [gl_cons]) (P8.get_Z1 f c r)
          · exact use (0,0,10) (by simp [gl_cons,d]) (P8.get_F1 f c y r (by omega) d)
        · exact use (y,2,0) (by simp [gl_cons,d]) (P8.get_E1 f c y r (by omega) hy.2)
    by_cases c2:x=130
    · subst c2
      match r,hb with
      | [],_ => exact P7.get_D2 f c
      | [y],_ => exact P7.get_D2a f c y
      | y :: z :: r,hb =>
        have hy:=hb y (by simp)
        have hz:=hb z (by simp)
        by_cases y0:y=0
        · subst y0; exact use (0,0,10) (by simp [gl_cons]) (P8.get_Z2 f c z r hz.1 hz.2)
        · exact use (256 * y + z,3,0) (by simp [gl_cons,y0]) (P8.get_E2 f c y z r (by omega) hy.2 hz.1 hz.2)
    obtain rfl:x=131:=by omega
    match r,hb with
    | [],_ => exact P7.get_D3 f c
    | [y],_ => exact P7.get_D3a f c y
    | [y,z],_ => exact P7.get_D3b f c y z
    | y :: z :: u :: r,hb =>
      have hy:=hb y (by simp)
      have hz:=hb z (by simp)
      have hu:=hb u (by simp)
      by_cases y0:y=0
      · subst y0; exact use (0,0,10) (by simp [gl_cons]) (P9.get_Z3 f c z u r hz.1 hz.2 hu.1 hu.2)
      · exact use (256 * (256 * y + z) + u,4,0) (by simp [gl_cons,y0]) (P9.get_E3 f c y z u r (by omega) hy.2 hz.1 hz.2 hu.1 hu.2)
end E50
end
section
open Ab Go TabE Sp
namespace E53
theorem cutR (f:Bool) (cp:Option Nat) (b:List Int) (a e:Nat) (h1:a ≤ e) (h2:e ≤ b.length):∀ h,sliceA E 26 (.sl f (bs b) cp) (some (.int .i64 (a:Int))) (some (.int .i64 (e:Int))) none h=some (.sl f (bs ((b.take e).drop a)) (cp.map fun q => q - a)):=by
  intro h
  have t:((bs b).take e).drop a=bs ((b.take e).drop a):=by simp [bs,List.map_take,List.map_drop]
  simp [sliceA,boundsA,fitsA,numA,boundsB,h1,h2,t,bs_length]
  intro n0 n1
  have:a < b.length:=by omega
  exact ⟨.int .u8 b[a],by simp [bs,this],rfl⟩
abbrev Z:List AV:=[.int .u8 0,.bool false,.int .u32 0,.sl true [] (some 0),.sl true [] (some 0)]
abbrev zv:AV:=.agg [.int .u8 0,.bool false,.int .u32 0,.sl true [] (some 0),.sl true [] (some 0)]
end E53
end
section
open Ab Go TabE Sp E40 E53
namespace E55
theorem isB_sub {b:List Int} (hb:isB b) (a e:Nat):isB ((b.take e).drop a):=fun y hy => hb y (List.mem_of_mem_take (List.mem_of_mem_drop hy))
end E55
end
section
open Ab Go TabE
attribute [local simp ↓] s_seq s_reg s_regd s_cond s_block s_cons s_consG s_regD
attribute [local simp] s_nil s_loop s_round s_lpn s_lpe s_lpr firstReg s_gt s_gf s_wb s_wu s_val s_valN s_skip s_calls s_callP s_cax lookR flatR pureKs s_ret s_rgx s_sqn s_sqr s_sqe s_cdb s_bkn s_bkr s_bke s_exit s_ret' s_skip' s_finr s_finn s_fin1 s_fix s_clean s_gc0 o_tmp o_int o_bool o_nil o_str o_fn o_nil' l_hit l_miss l_nil ol_nil ol_cons ol_some x_move x_assign x_pick pk_t pk_f x_bin bn_s x_un x_extract x_callF cl_no x_callB x_callBF frzV x_conv cvx convA frame0 binA intOp resL resA results1 sealLW AV.pure AV.pureL keepT x_alloc x_box bxx x_build bdx x_buildSlice bsx x_buildSliceF bsf x_load ldx x_store stx x_slice slx x_fieldAddr x_field x_index ixx x_indexAddr iax x_makeSlice msx x_makeSliceF msf x_nilCheck newK genOf setK lookK fillA writeL writeC readC conts TyI.mk1 sliceA boundsA boundsB fitsA numA indexAddrA fieldAddrA partA fieldA indexA appendA copyA builtinA AV.cells chunk gcH reach keysT keepK inKs AV.keys AV.keysL Ty.isAgg eq1 eqL convA.go ltI w_u8 w_u32 w_u64 w_i64 w_fdiv w_tdiv w_tmod IntKind.bits unA sc_int sc_bool sc_str sc_sl sc_ref sc_ptr sc_pel sc_nilp sc_fn sc_nilf sc_if sc_nili sc_agg sc_tup sc_mem bs_pure bs_kl bs_length bs_cells bs_all sl_row sealRow sealY sl_int sl_bool sl_str sl_sl sl_nilp sl_nilf sl_nili sl_pel sl_agg sl_tup sl_fn sl_if nat_1 bs_cons bs_nil i_beq i_bne x_mkF x_mkI x_tassert x_panic s_pan s_sqp s_bkp s_finp s_fixp s_lpp s_rgp s_retp s_site s_stxN s_stxO x_callT clx El.avs_len s_dyn0 s_rgy barOf dynChk footL dynOK disjK keysOp opVals Op.operands sealA AV.scal
section
open Ab Go TabE Sp E53
namespace E56
theorem clipE (f:Bool) (xs:List AV) (c:Option Nat) (hp:AV.pureL xs=true):Con E 5 90 [.sl f xs c] (.sl f xs (some xs.length)):=by
  refine .of (g:=[]) (by simp [AV.pureL,AV.pure]) ?_
  rw [aCall_fn rfl E_fn90 (by simp [AV.pureL,AV.pure]) (Nat.le_of_ble_eq_true rfl) rfl rfl,body_90,c90]
  simp [hp]
abbrev R (fl:Bool) (b:List Int) (cp:Option Nat) (m:Int):AObj:=bx [.sl fl (bs b) cp,.int .i64 m]
theorem R_keys (fl b cp m):AV.keysL (R fl b cp m).cells=[]:=rfl
theorem R_rn (fl b cp m φ):AV.rnL φ (R fl b cp m).cells=(R fl b cp m).cells:=rfl
abbrev flt (x y:Int):AV:=.iface 189 (.agg [.int .i64 x,.int .i64 y])
theorem lent (h:Heap) (key:Key) (o:AObj) (hk:lookK h key=some o) (hl:o.live=true) (ko:AV.keysL o.cells=[]) (ro:∀ φ,AV.rnL φ o.cells=o.cells) (slot:Nat) (sr:Bool) (run:List AV → Heap → Option (ARes × Heap)) (x y z:Int) :
    lendA (dd (reach h 3 (AV.keysL [AV.ptr key 0,.int .i64 x,.int .i64 y,.int .i64 z]))) slot h [.ptr key 0,.int .i64 x,.int .i64 y,.int .i64 z] sr run=backR [key] slot h sr (run [.ptr (0,0,0) 0,.int .i64 x,.int .i64 y,.int .i64 z] [((0,0,0),o)]):=by
  have e0:AV.keysL [AV.ptr key 0,.int .i64 x,.int .i64 y,.int .i64 z]=[key]:=rfl
  rw [e0]
  have e1:dd (reach h 3 [key])=[key]:=by simp [reach,hk,hl,ko,dd]
  rw [e1]
  unfold lendA
  have e2:lendH h (inK [key]) [key]=some [((0,0,0),o)]:=by simp [lendH,hk,inK,posK,ro]
  rw [e2]
  have e3:closedH h [key] [key]=true:=by simp [closedH,hk,ko]
  simp only [e0]
  rw [if_pos ⟨e3,by simp [inKs]⟩]
  have e4:AV.rnL (inK [key]) [AV.ptr key 0,.int .i64 x,.int .i64 y,.int .i64 z]=[.ptr (0,0,0) 0,.int .i64 x,.int .i64 y,.int .i64 z]:=by simp [AV.rnL,AV.rn,inK,posK]
  rw [e4]
theorem backK (h hf:Heap) (key:Key) (o':AObj) (slot:Nat) (vs:List AV) (hp:AV.pureL vs=true) (hk:lookK hf (0,0,0)=some o') (hl:o'.live=true) (ko:AV.keysL o'.cells=[]) (ro:∀ φ,AV.rnL φ o'.cells=o'.cells):Ab.back [key] slot h hf vs=some (vs,setK h key o'):=by
  have kv:AV.keysL vs=[]:=AV.keysL_pure _ hp
  have rv:∀ φ,AV.rnL φ vs=vs:=fun φ => rnL_pure vs hp
  unfold Ab.back
  have e9:lentKs 1=[(0,0,0)]:=rfl
  have e7:dd (reach hf 3 ([(0,0,0)] ++ []))=[(0,0,0)]:=by simp [reach,hk,hl,ko,dd]
  simp only [List.length_singleton,e9,kv,e7,backA]
  have e10:closedH hf [(0,0,0)] [(0,0,0)]=true:=by simp [closedH,hk,ko]
  rw [if_pos ⟨e10,by rfl,by rfl,by rfl⟩]
  simp [rv,outK,putAll,hk,ro]
theorem op_ok {run:RunF} {slot:Nat} {h hf:Heap} {key:Key} {o o':AObj} {x y z:Int} {v:AV} (hk:lookK h key=some o) (hl:o.live=true) (ko:AV.keysL o.cells=[]) (ro:∀ φ,AV.rnL φ o.cells=o.cells) (hl':o'.live=true) (ko':AV.keysL o'.cells=[]) (ro':∀ φ,AV.rnL φ o'.cells=o'.cells)
    (hv:v.pure=true) (hr:run 133 [.ptr (0,0,0) 0,.int .i64 x,.int .i64 y,.int .i64 z] [((0,0,0),o)]=some (.ret v,hf)) (hq:lookK hf (0,0,0)=some o') :
    opened [true,false,false,false] true run slot 133 [.ptr key 0,.int .i64 x,.int .i64 y,.int .i64 z] h=some (.ret v,setK h key o'):=by
  unfold opened
  have e1:sealM (sealA 20) [true,false,false,false] h [.ptr key 0,.int .i64 x,.int .i64 y,.int .i64 z]=some ([.ptr key 0,.int .i64 x,.int .i64 y,.int .i64 z],h):=by simp [sealM,sealA,AV.pure]
  rw [e1]
  simp only
  rw [lent h key o hk hl ko ro,hr]
  have e2:sealA 20 hf v=some (v,hf):=by unfold sealA; rw [if_pos hv]
  simp only [backR,if_true,e2,backV]
  rw [backK h hf key o' slot [v] (by simp [AV.pureL,hv]) hq hl' ko' ro']
theorem op_bad {run:RunF} {slot:Nat} {h hf:Heap} {key:Key} {o o':AObj} {x y z:Int} {ch:List AV} (hk:lookK h key=some o) (hl:o.live=true) (ko:AV.keysL o.cells=[]) (ro:∀ φ,AV.rnL φ o.cells=o.cells) (hl':o'.live=true) (ko':AV.keysL o'.cells=[]) (ro':∀ φ,AV.rnL φ o'.cells=o'.cells)
    (hv:AV.pureL ch=true) (hr:run 133 [.ptr (0,0,0) 0,.int .i64 x,.int .i64 y,.int .i64 z] [((0,0,0),o)]=some (.panic ch,hf)) (hq:lookK hf (0,0,0)=some o') :
    opened [true,false,false,false] true run slot 133 [.ptr key 0,.int .i64 x,.int .i64 y,.int .i64 z] h=some (.panic ch,setK h key o'):=by
  unfold opened
  have e1:sealM (sealA 20) [true,false,false,false] h [.ptr key 0,.int .i64 x,.int .i64 y,.int .i64 z]=some ([.ptr key 0,.int .i64 x,.int .i64 y,.int .i64 z],h):=by simp [sealM,sealA,AV.pure]
  rw [e1]
  simp only
  rw [lent h key o hk hl ko ro,hr]
  simp only [backR,hv,if_true]
  rw [backK h hf key o' slot [] rfl hq hl' ko' ro']
def panA:Option (AExit × St) → Option (List AV × Option AObj)
  | some (.panic ch,s) => some (ch,lookK s.h (0,0,0))
  | _ => none
theorem panA_eq {x:Option (AExit × St)} {ch o} (h:panA x=some (ch,o)):∃ s,x=some (.panic ch,s) ∧ lookK s.h (0,0,0)=o:=by
  unfold panA at h
  split at h
  · cases h; exact ⟨_,rfl,rfl⟩
  · cases h
theorem s_retp2 {E:Env} {call:CallF} {lvl n:Nat} {d r} {t:Fr} {h g:Heap} {ch}:nxc E call lvl n d r ⟨t,h⟩ (some (.panic ch,g))=some (.panic ch,⟨t,g⟩):=rfl
def lpE:Code:=lp c133 0
abbrev St0 (fl:Bool) (b:List Int) (cp:Option Nat) (c n d m:Int) (a e:Nat):St:=⟨[(0,.ptr (0,0,0) 0),(1,.int .i64 (a:Int)),(2,.int .i64 (e:Int)),(3,.int .i64 d),(8,.ptr (1,8,0) 0),(14,.ptr (1,14,0) 0)],[((0,0,0),R fl b cp m),((1,8,0),bx Z),((1,14,0),bx [.int .u8 c,.bool true,.int .u32 n,.sl true [] (some 0),.sl true [] (some 0)])]⟩
abbrev StR (fl:Bool) (b:List Int) (cp:Option Nat) (c n d m:Int) (a e:Nat) (l:List El) (g:Nat):St:=⟨[(0,.ptr (0,0,0) 0),(1,.int .i64 (a:Int)),(2,.int .i64 (e:Int)),(3,.int .i64 d),(8,.ptr (1,8,0) 0),(14,.ptr (1,14,0) 0)],[((0,0,0),R fl b cp m),((1,8,0),bx Z),((1,14,0),bx [.int .u8 c,.bool true,.int .u32 n,.sl true [] (some 0),.ref (1,143,g) 0 l.length none]),((1,143,g),⟨El.fl l,true,true,false,5,true⟩)]⟩
abbrev OkC (q:Nat) (fl:Bool) (b:List Int) (cp:Option Nat) (a e:Nat) (d m:Int) (v:AV) (m':Int):Prop:=∀ h,lookK h (0,0,0)=some (R fl b cp m) → opened [true,false,false,false] true (aRun E q) 136 133 [.ptr (0,0,0) 0,.int .i64 (a:Int),.int .i64 (e:Int),.int .i64 d] h=some (.ret v,setK h (0,0,0) (R fl b cp m'))
abbrev BadC (q:Nat) (fl:Bool) (b:List Int) (cp:Option Nat) (a e:Nat) (d m:Int) (x y:Int) (m':Int):Prop:=∀ h,lookK h (0,0,0)=some (R fl b cp m) → opened [true,false,false,false] true (aRun E q) 136 133 [.ptr (0,0,0) 0,.int .i64 (a:Int),.int .i64 (e:Int),.int .i64 d] h=some (.panic [flt x y],setK h (0,0,0) (R fl b cp m'))
theorem go0 (q k1:Nat) (fl b cp) (c n d m:Int) (a e a':Nat) (m':Int) (x:El) (hae:a < e) (d0:0 ≤ d) (d1:d ≤ 100) (he:e ≤ 100000000) (C:OkC q fl b cp a e (d + 1) m (.tup [x.av,.int .i64 (a':Int)]) m') :
    rndO fn133 lpE q k1 (St0 fl b cp c n d m a e)=some (.normal,StR fl b cp c n d m' a' e [x] 0):=by
  have w:=w64' (d + 1) (by omega) (by omega)
  have h1:(a:Int) < e:=by omega
  rw [El.av_eq] at C
  simp [lpE,lp,lps,c133,w,h1,hae,C,El.fl_one]
theorem goR (q k1:Nat) (fl b cp) (c n d m:Int) (a e a':Nat) (m':Int) (l:List El) (g:Nat) (x:El) (hae:a < e) (d0:0 ≤ d) (d1:d ≤ 100) (he:e ≤ 100000000) (hl:l.length ≤ 100000000) (C:OkC q fl b cp a e (d + 1) m (.tup [x.av,.int .i64 (a':Int)]) m') :
    rndO fn133 lpE q k1 (StR fl b cp c n d m a e l g)=some (.normal,StR fl b cp c n d m' a' e (l ++ [x]) (g + 1)):=by
  have w:=w64' (d + 1) (by omega) (by omega)
  have h1:(a:Int) < e:=by omega
  rw [El.av_eq] at C
  have cs5:(l.length + 1) * 56 ≤ 70368744177664:=by omega
  have f1:=El.fl_len l
  have f2:=El.fl_keys l
  have f3:(El.fl l).take (l.length * 5)=El.fl l:=by rw [El.fl_take,List.take_length]
  have f4:=El.fl_pure l
  have f5:=El.fl_scal l
  simp [lpE,lp,lps,c133,w,h1,hae,C,El.fl_snoc,f1,f2,f3,f4,f5,cs5,El.fl_keysr]
theorem bad0 (q k1:Nat) (fl b cp) (c n d m:Int) (a e:Nat) (x y m':Int) (hae:a < e) (d0:0 ≤ d) (d1:d ≤ 100) (he:e ≤ 100000000) (C:BadC q fl b cp a e (d + 1) m x y m') :
    panA (rndO fn133 lpE q k1 (St0 fl b cp c n d m a e))=some ([flt x y],some (R fl b cp m')):=by
  have w:=w64' (d + 1) (by omega) (by omega)
  have h1:(a:Int) < e:=by omega
  simp [lpE,lp,lps,c133,w,h1,hae,C,panA,s_retp2]
theorem badR (q k1:Nat) (fl b cp) (c n d m:Int) (a e:Nat) (l:List El) (g:Nat) (x y m':Int) (hae:a < e) (d0:0 ≤ d) (d1:d ≤ 100) (he:e ≤ 100000000) (C:BadC q fl b cp a e (d + 1) m x y m') :
    panA (rndO fn133 lpE q k1 (StR fl b cp c n d m a e l g))=some ([flt x y],some (R fl b cp m')):=by
  have w:=w64' (d + 1) (by omega) (by omega)
  have h1:(a:Int) < e:=by omega
  have f2:=El.fl_keys l
  simp [lpE,lp,lps,c133,w,h1,hae,C,panA,s_retp2,f2]
theorem last0 (q k1:Nat) (fl b cp) (c n d m:Int) (a e:Nat) (hae:e ≤ a) :
    rndO fn133 lpE q k1 (St0 fl b cp c n d m a e)=some (.exit 2,⟨[(0,.ptr (0,0,0) 0),(1,.int .i64 (a:Int)),(2,.int .i64 (e:Int)),(3,.int .i64 d),(8,.ptr (1,8,0) 0),(14,.ptr (1,14,0) 0),(129,.bool false)],(St0 fl b cp c n d m a e).h⟩):=by
  have h1:¬ (a:Int) < e:=by omega
  have h2:¬ a < e:=by omega
  simp [lpE,lp,lps,c133,h1,h2,hae]
theorem lastR (q k1:Nat) (fl b cp) (c n d m:Int) (a e:Nat) (l:List El) (g:Nat) (hae:e ≤ a) :
    rndO fn133 lpE q k1 (StR fl b cp c n d m a e l g)=some (.exit 2,⟨[(0,.ptr (0,0,0) 0),(1,.int .i64 (a:Int)),(2,.int .i64 (e:Int)),(3,.int .i64 d),(8,.ptr (1,8,0) 0),(14,.ptr (1,14,0) 0),(129,.bool false)],(StR fl b cp c n d m a e l g).h⟩):=by
  have h1:¬ (a:Int) < e:=by omega
  have h2:¬ a < e:=by omega
  have f2:=El.fl_keys l
  simp [lpE,lp,lps,c133,h1,h2,hae,f2]
end E56
end
end
section
open Ab Go TabE Sp E56
namespace E57
abbrev Lp (K:Nat):=aLoop (aCode E (site fn133 (aRun E K)) (dcall (aRun E K)) K 1 fn133 lpE) (cleanS 1 ((firstReg lpE).bind fn133.head))
def Sx (fl:Bool) (b:List Int) (cp:Option Nat) (c n d m:Int) (a e:Nat) (l:List El):St:=if l=[] then St0 fl b cp c n d m a e else StR fl b cp c n d m a e l (l.length - 1)
def En (fl:Bool) (b:List Int) (cp:Option Nat) (c n d m:Int) (a e:Nat) (l:List El):AExit × St :=
  if l=[] then (.exit 2,⟨[(0,.ptr (0,0,0) 0),(1,.int .i64 (a:Int)),(2,.int .i64 (e:Int)),(3,.int .i64 d),(8,.ptr (1,8,0) 0),(14,.ptr (1,14,0) 0),(129,.bool false)],(St0 fl b cp c n d m a e).h⟩)
  else (.exit 2,⟨[(0,.ptr (0,0,0) 0),(1,.int .i64 (a:Int)),(2,.int .i64 (e:Int)),(3,.int .i64 d),(8,.ptr (1,8,0) 0),(14,.ptr (1,14,0) 0),(129,.bool false)],(StR fl b cp c n d m a e l (l.length - 1)).h⟩)
abbrev Kn (f:Nat):Prop:=∀ (fl:Bool) (b:List Int) (cp:Option Nat) (a e:Nat) (d m:Int),(fl=true → b=[]) → isB b → b.length ≤ 100000000 → a ≤ e → e ≤ b.length → 0 ≤ d → d ≤ 17 → 0 ≤ m → m ≤ 8192 → e - a + 1 ≤ f →
  match rd f b a e d m with
  | .ok c n m' => ∃ hf,lookK hf (0,0,0)=some (R fl b cp m') ∧ ∀ q,f + 200 ≤ q → aRun E q 133 [.ptr (0,0,0) 0,.int .i64 (a:Int),.int .i64 (e:Int),.int .i64 d] [((0,0,0),R fl b cp m)]=some (.ret (.tup [(dec1 c).av,.int .i64 (n:Int)]),hf)
  | .bad x y => ∃ hf m',lookK hf (0,0,0)=some (R fl b cp m') ∧ ∀ q,f + 200 ≤ q → aRun E q 133 [.ptr (0,0,0) 0,.int .i64 (a:Int),.int .i64 (e:Int),.int .i64 d] [((0,0,0),R fl b cp m)]=some (.panic [flt x y],hf)
theorem loop (K:Nat) (fl:Bool) (b:List Int) (cp:Option Nat) (c n d:Int) (e:Nat) (hn:fl=true → b=[]) (hb:isB b) (lb:b.length ≤ 100000000) (he:e ≤ b.length) (d0:0 ≤ d) (d1:d ≤ 16):∀ (f:Nat),(∀ j,j < f → Kn j) → f + 200 ≤ K → ∀ (a:Nat) (m:Int) (l:List El) (k:Nat),a ≤ e → 0 ≤ m → m ≤ 8192 → l.length + (e - a) ≤ 100000000 → e - a + 2 ≤ f → e - a < k →
    match rds f b a e (d + 1) m with
    | .inl (s,m') => ∃ a',Lp K k (Sx fl b cp c n d m a e l)=some (En fl b cp c n d m' a' e (l ++ decs1 s))
    | .inr (x,y) => ∃ m',panA (Lp K k (Sx fl b cp c n d m a e l))=some ([flt x y],some (R fl b cp m')):=by
  intro f
  induction f with
  | zero => intro _ _ a m l k _ _ _ _ h; omega
  | succ f ih =>
    intro hK hf a m l k ha m0 m1 hl h1 h2
    obtain ⟨k,rfl⟩:∃ j,k=j + 1:=⟨k - 1,by omega⟩
    rw [rds]
    by_cases q:e ≤ a
    · rw [if_pos q]
      refine ⟨a,?_⟩
      rw [decs1,List.append_nil]
      unfold Sx En
      by_cases hl0:l=[]
      · rw [if_pos hl0,if_pos hl0]; exact aLoop_end (last0 K K fl b cp c n d m a e q) (by simp)
      · rw [if_neg hl0,if_neg hl0]; exact aLoop_end (lastR K K fl b cp c n d m a e l _ q) (by simp)
    rw [if_neg q]
    have C:=hK f (by omega) fl b cp a e (d + 1) m hn hb lb ha he (by omega) (by omega) m0 m1 (by omega)
    cases hr:rd f b a e (d + 1) m with
    | bad x y =>
      rw [hr] at C
      obtain ⟨hf',m',q1,q2⟩:=C
      have C':BadC K fl b cp a e (d + 1) m x y m':=fun h hk => op_bad hk rfl (R_keys _ _ _ _) (fun φ => R_rn _ _ _ _ φ) rfl (R_keys _ _ _ _) (fun φ => R_rn _ _ _ _ φ) rfl (q2 K (by omega)) q1
      refine ⟨m',?_⟩
      have st:panA (rndO fn133 lpE K K (Sx fl b cp c n d m a e l))=some ([flt x y],some (R fl b cp m')):=by
        unfold Sx
        by_cases hl0:l=[]
        · rw [if_pos hl0]; exact bad0 K K fl b cp c n d m a e x y m' (by omega) d0 (by omega) (by omega) C'
        · rw [if_neg hl0]; exact badR K K fl b cp c n d m a e l _ x y m' (by omega) d0 (by omega) (by omega) C'
      obtain ⟨s,s1,s2⟩:=panA_eq st
      have en:=aLoop_end (k:=k) (f:=aCode E (site fn133 (aRun E K)) (dcall (aRun E K)) K 1 fn133 lpE) (cl:=cleanS 1 ((firstReg lpE).bind fn133.head)) s1 (by simp)
      show panA (aLoop _ _ _ _)=_
      rw [en]
      simp only [panA,s2]
    | ok cc a' m' =>
      have RK:=rd_back f b a e (d + 1) m cc a' m' hb he ha m1 hr
      have cp1:=cnt_pos cc
      rw [hr] at C
      obtain ⟨hf',q1,q2⟩:=C
      have C':OkC K fl b cp a e (d + 1) m (.tup [(dec1 cc).av,.int .i64 (a':Int)]) m':=fun h hk => op_ok hk rfl (R_keys _ _ _ _) (fun φ => R_rn _ _ _ _ φ) rfl (R_keys _ _ _ _) (fun φ => R_rn _ _ _ _ φ) (by simp [AV.pure,AV.pureL,El.av_pure]) (q2 K (by omega)) q1
      have st:rndO fn133 lpE K K (Sx fl b cp c n d m a e l)=some (.normal,Sx fl b cp c n d m' a' e (l ++ [dec1 cc])):=by
        unfold Sx
        rw [if_neg (show ¬ (l ++ [dec1 cc]=[]) by simp)]
        by_cases hl0:l=[]
        · subst hl0; rw [if_pos rfl]; exact go0 K K fl b cp c n d m a e a' m' (dec1 cc) (by omega) d0 (by omega) (by omega) C'
        · rw [if_neg hl0]
          have hp:0 < l.length:=List.length_pos_iff.2 hl0
          have e1:(l ++ [dec1 cc]).length - 1=l.length - 1 + 1:=by rw [List.length_append,List.length_singleton]; omega
          rw [e1]
          exact goR K K fl b cp c n d m a e a' m' l (l.length - 1) (dec1 cc) (by omega) d0 (by omega) (by omega) (by omega) C'
      have I:=ih (fun j hj => hK j (by omega)) (by omega) a' m' (l ++ [dec1 cc]) k RK.r (by have:=RK.n; omega) RK.k (by rw [List.length_append,List.length_singleton]; have:=RK.l; have:=RK.r; omega) (by have:=RK.l; omega) (by have:=RK.l; omega)
      have su:=aLoop_succ (k:=k) (f:=aCode E (site fn133 (aRun E K)) (dcall (aRun E K)) K 1 fn133 lpE) (cl:=cleanS 1 ((firstReg lpE).bind fn133.head)) st
      cases hr2:rds f b a' e (d + 1) m' with
      | inl p =>
        obtain ⟨s,m2⟩:=p
        rw [hr2] at I
        simp only at I
        simp only [hr2]
        obtain ⟨a2,I⟩:=I
        refine ⟨a2,?_⟩
        rw [List.append_assoc] at I
        rw [decs1]
        exact su.trans I
      | inr p =>
        obtain ⟨x,y⟩:=p
        rw [hr2] at I
        simp only at I
        simp only [hr2]
        obtain ⟨m3,I⟩:=I
        refine ⟨m3,?_⟩
        show panA (aLoop _ _ _ _)=_
        rw [su]
        exact I
end E57
end
section
open Ab Go TabE Sp E40
namespace E41
theorem and8 (x:Int) (h0:0 ≤ x) (h1:x < 256):intOp .and .u8 x 127=some (.int .u8 (x % 128)):=by
  have:∀ n:Fin 256,intOp .and .u8 (n.val:Int) 127=some (.int .u8 ((n.val:Int) % 128)):=by
    have q:∀ n:Fin 256,IntKind.u8.wrap (BitVec.ofInt 8 (n.val:Int) &&& BitVec.ofInt 8 127).toNat=(n.val:Int) % 128:=by decide +kernel
    intro n
    show some (AV.int .u8 (IntKind.u8.wrap (BitVec.ofInt 8 (n.val:Int) &&& BitVec.ofInt 8 127).toNat))=_
    rw [q n]
  obtain ⟨n,rfl⟩:=Int.eq_ofNat_of_zero_le h0
  exact this ⟨n,by omega⟩
theorem or32 (a y:Int) (a0:0 ≤ a) (a1:a < 2097152) (y0:0 ≤ y) (y1:y < 128):intOp .or .u32 (a * 128) y=some (.int .u32 (128 * a + y)):=by
  obtain ⟨m,rfl⟩:=Int.eq_ofNat_of_zero_le a0
  obtain ⟨n,rfl⟩:=Int.eq_ofNat_of_zero_le y0
  have e:((m:Int) * 128)=((m * 128:Nat):Int):=by omega
  show some (AV.int .u32 (IntKind.u32.wrap (BitVec.ofInt 32 ((m:Int) * 128) ||| BitVec.ofInt 32 (n:Int)).toNat))=_
  rw [e,BitVec.ofInt_natCast,BitVec.ofInt_natCast,BitVec.toNat_or,BitVec.toNat_ofNat,BitVec.toNat_ofNat,Nat.mod_eq_of_lt (by omega),Nat.mod_eq_of_lt (by omega)]
  have o:=Nat.shiftLeft_add_eq_or_of_lt (show n < 2 ^ 7 by omega) m
  rw [Nat.shiftLeft_eq] at o
  have o2:m * 128 ||| n=m * 128 + n:=by rw [← o]
  rw [o2,w_u32]
  congr 2
  omega
end E41
end
section
open Ab Go TabE
attribute [local simp ↓] s_seq s_reg s_regd s_cond s_block s_cons s_consG
attribute [local simp] s_nil s_loop s_round s_lpn s_lpe s_lpr firstReg s_gt s_gf s_wb s_wu s_val s_valN s_skip s_calls s_callP s_cax lookR flatR pureKs s_ret s_rgx s_sqn s_sqr s_sqe s_cdb s_bkn s_bkr s_bke s_exit s_ret' s_skip' s_finr s_finn s_fin1 s_fix s_clean s_gc0 o_tmp o_int o_bool o_nil o_str o_fn o_nil' l_hit l_miss l_nil ol_nil ol_cons ol_some x_move x_assign x_pick pk_t pk_f x_bin bn_s x_un x_extract x_callF cl_no x_callB x_callBF frzV x_conv cvx convA frame0 binA intOp resL resA results1 sealLW AV.pure AV.pureL keepT x_alloc x_box bxx x_build bdx x_buildSlice bsx x_buildSliceF bsf x_load ldx x_store stx x_slice slx x_fieldAddr x_field x_index ixx x_indexAddr iax x_makeSlice msx x_makeSliceF msf x_nilCheck newK genOf setK lookK fillA writeL writeC readC conts TyI.mk1 sliceA boundsA boundsB fitsA numA indexAddrA fieldAddrA partA fieldA indexA appendA copyA builtinA AV.cells chunk gcH reach keysT keepK inKs AV.keys AV.keysL Ty.isAgg eq1 eqL convA.go ltI w_u8 w_u32 w_u64 w_i64 w_fdiv w_tdiv w_tmod IntKind.bits unA sc_int sc_bool sc_str sc_sl sc_ref sc_ptr sc_pel sc_nilp sc_fn sc_nilf sc_if sc_nili sc_agg sc_tup sc_mem bs_pure bs_kl bs_length bs_cells bs_all sl_row sealRow sealY sl_int sl_bool sl_str sl_sl sl_nilp sl_nilf sl_nili sl_pel sl_agg sl_tup sl_fn sl_if nat_1 bs_cons bs_nil i_beq i_bne x_mkF x_mkI x_tassert x_panic s_pan s_sqp s_bkp s_finp s_fixp s_lpp s_rgp s_retp s_site s_stxN s_stxO x_callT clx El.avs_len
section
open Ab Go TabE Sp E40 E41
namespace E42
theorem go (q k1:Nat) (f c) (xs:List Int) (a x:Int) (i:Nat) (hx:xs[i]? = some x) (i1:1 ≤ i) (i4:i < 4) (x0:128 ≤ x) (x1:x < 256) (nb:¬ (i=1 ∧ x=128)) (a0:0 ≤ a) (a1:a < 2097152) :
    rnd fn167 b112 q k1 (S f xs c a i)=some (.normal,S f xs c (128 * a + x % 128) (i + 1)):=by
  have hi:i < xs.length:=(List.getElem?_eq_some_iff.1 hx).1
  have ix:=byte_at f c xs i x hx
  have w:=w64' ((i:Int) + 1) (by omega) (by omega)
  have h1:=and8 x (by omega) x1
  have h2:=or32 a (x % 128) a0 a1 (by omega) (by omega)
  have h3:¬ x < 128:=by omega
  have h4:¬ ((i:Int)=4):=by omega
  have h5:¬ ((i:Int)=xs.length):=by omega
  have h6:¬ (i=xs.length):=by omega
  have h7:¬ (i=4):=by omega
  have w7:(a * 128) % 4294967296=a * 128:=Int.emod_eq_of_lt (by omega) (by omega)
  have w8:(x % 128) % 4294967296=x % 128:=Int.emod_eq_of_lt (by omega) (by omega)
  simp only [intOp] at h1 h2
  simp [IntKind.bits,w_u8,w_u32] at h1 h2
  by_cases e1:i=1
  · subst e1
    have ix1:∀ hp,indexAddrA E 26 (.sl f (bs xs) c) (.int .i64 1) hp=some (.pel [.int .u8 x]):=ix
    have h8:¬ ((1:Int)=xs.length):=by omega
    have nx:¬ x=128:=fun e => nb ⟨rfl,e⟩
    simp [b112,lp,lps,c167,-indexAddrA,ix1,w,h1,h2,h3,h5,h6,h8,nx,w7,w8]
  · have e2:¬ (i:Int)=1:=by omega
    simp [b112,lp,lps,c167,-indexAddrA,ix,w,h1,h2,h3,h4,h5,h6,h7,e1,e2,w7,w8]
end E42
end
section
open Ab Go TabE Sp E40 E41
namespace E43
theorem short (q k1:Nat) (f c) (xs:List Int) (a:Int):rnd fn167 b112 q k1 (S f xs c a xs.length)=some (.ret,⟨[(2,.int .u32 0),(3,.int .i64 0),(4,.int .i64 7)],[]⟩):=by
  simp [b112,lp,lps,c167]
theorem bad1 (q k1:Nat) (f c) (xs:List Int) (a:Int) (hx:xs[1]? = some 128):rnd fn167 b112 q k1 (S f xs c a 1)=some (.ret,⟨[(2,.int .u32 0),(3,.int .i64 0),(4,.int .i64 9)],[]⟩):=by
  have hi:1 < xs.length:=(List.getElem?_eq_some_iff.1 hx).1
  have ix1:∀ hp,indexAddrA E 26 (.sl f (bs xs) c) (.int .i64 1) hp=some (.pel [.int .u8 128]):=byte_at f c xs 1 128 hx
  have h8:¬ ((1:Int)=xs.length):=by omega
  simp [b112,lp,lps,c167,-indexAddrA,ix1,h8]
theorem bad4 (q k1:Nat) (f c) (xs:List Int) (a x:Int) (hx:xs[4]? = some x) (x0:128 ≤ x) (x1:x < 256):rnd fn167 b112 q k1 (S f xs c a 4)=some (.ret,⟨[(2,.int .u32 0),(3,.int .i64 0),(4,.int .i64 9)],[]⟩):=by
  have hi:4 < xs.length:=(List.getElem?_eq_some_iff.1 hx).1
  have ix1:∀ hp,indexAddrA E 26 (.sl f (bs xs) c) (.int .i64 4) hp=some (.pel [.int .u8 x]):=byte_at f c xs 4 x hx
  have h8:¬ ((4:Int)=xs.length):=by omega
  simp [b112,lp,lps,c167,-indexAddrA,ix1,h8,x0]
end E43
end
section
open Ab Go TabE Sp E40 E41
namespace E44
theorem fin (q k1:Nat) (f c) (xs:List Int) (a x:Int) (i:Nat) (hx:xs[i]? = some x) (i1:1 ≤ i) (i4:i ≤ 4) (x0:0 ≤ x) (x1:x < 128) (a0:0 ≤ a) (a1:a < 2097152) :
    rnd fn167 b112 q k1 (S f xs c a i)=some (.exit 0,⟨[(0,.sl f (bs xs) c),(2,.int .u32 (128 * a + x % 128)),(3,.int .i64 (i:Int)),(37,.bool true)],[]⟩):=by
  have hi:i < xs.length:=(List.getElem?_eq_some_iff.1 hx).1
  have ix:=byte_at f c xs i x hx
  have h1:=and8 x (by omega) (by omega)
  have h2:=or32 a (x % 128) a0 a1 (by omega) (by omega)
  have h3:x < 128:=x1
  have h9:¬ (128 ≤ x):=by omega
  have h5:¬ ((i:Int)=xs.length):=by omega
  have h6:¬ (i=xs.length):=by omega
  have nx:¬ x=128:=by omega
  have w7:(a * 128) % 4294967296=a * 128:=Int.emod_eq_of_lt (by omega) (by omega)
  have w8:(x % 128) % 4294967296=x % 128:=Int.emod_eq_of_lt (by omega) (by omega)
  simp only [intOp] at h1 h2
  simp [IntKind.bits,w_u8,w_u32] at h1 h2
  by_cases e1:i=1
  · subst e1
    have ix1:∀ hp,indexAddrA E 26 (.sl f (bs xs) c) (.int .i64 1) hp=some (.pel [.int .u8 x]):=ix
    have h8:¬ ((1:Int)=xs.length):=by omega
    simp [b112,lp,lps,c167,-indexAddrA,ix1,h1,h2,h3,h5,h6,h8,h9,nx,w7,w8]
  · by_cases e4:i=4
    · subst e4
      have ix1:∀ hp,indexAddrA E 26 (.sl f (bs xs) c) (.int .i64 4) hp=some (.pel [.int .u8 x]):=ix
      have h8:¬ ((4:Int)=xs.length):=by omega
      simp [b112,lp,lps,c167,-indexAddrA,ix1,h1,h2,h3,h5,h6,h8,h9,nx,w7,w8]
    · have e2:¬ (i:Int)=1:=by omega
      have h4:¬ ((i:Int)=4):=by omega
      simp [b112,lp,lps,c167,-indexAddrA,ix,h1,h2,h3,h4,h5,h6,h9,e1,e2,e4,nx,w7,w8]
end E44
end
end
section
open Ab Go TabE Sp E40 E41
namespace E45
abbrev Lp (K:Nat):=aLoop (aCode E (aCall E K) (dcall (aRun E K)) K 1 fn167 b112) (cleanS 1 ((firstReg b112).bind fn167.head))
theorem loop (K:Nat) (f c) (xs:List Int) (hb:isB xs):∀ (r:List Int) (i:Nat) (a:Int) (k:Nat),xs.drop i=r → 1 ≤ i → i ≤ 4 → i ≤ xs.length → 0 ≤ a → (i=4 → a < 2097152) → (i=3 → a < 16384) → (i=2 → a < 128) → (i=1 → a=0) → 5 ≤ k + i →
    (∃ e:Int,e ≠ 0 ∧ num r i a=(0,0,e) ∧ Lp K k (S f xs c a i)=some (.ret,⟨[(2,.int .u32 0),(3,.int .i64 0),(4,.int .i64 e)],[]⟩)) ∨
    (∃ v:Int,∃ j:Nat,0 ≤ v ∧ v < 268435456 ∧ j ≤ 4 ∧ num r i a=(if v < 31 then (0,0,9) else (v,(j:Int) + 1,0)) ∧ Lp K k (S f xs c a i)=some (.exit 0,⟨[(0,.sl f (bs xs) c),(2,.int .u32 v),(3,.int .i64 (j:Int)),(37,.bool true)],[]⟩))
  | [],i,a,k,h1,i1,i4,hl,a0,a4,a3,a2,aa,hk => by
    obtain ⟨k,rfl⟩:∃ j,k=j + 1:=⟨k - 1,by omega⟩
    have:=List.drop_eq_nil_iff.1 h1
    obtain rfl:i=xs.length:=by omega
    exact .inl ⟨7,by omega,rfl,aLoop_end (E43.short K K f c xs a) (by simp)⟩
  | x :: r,i,a,k,h1,i1,i4,hl,a0,a4,a3,a2,aa,hk => by
    obtain ⟨k,rfl⟩:∃ j,k=j + 1:=⟨k - 1,by omega⟩
    have hx:xs[i]? = some x:=by
      have:=congrArg (fun l => l[0]?) h1
      simpa [List.getElem?_drop] using this
    have hd:xs.drop (i + 1)=r:=by
      have:=congrArg List.tail h1
      simpa [List.tail_drop] using this
    have hi:i < xs.length:=(List.getElem?_eq_some_iff.1 hx).1
    have xb:=hb x (List.mem_of_getElem? hx)
    unfold num
    by_cases b1:(i:Int)=1 ∧ x=128
    · obtain ⟨q1,rfl⟩:=b1
      obtain rfl:i=1:=by omega
      rw [if_pos (.inl ⟨rfl,rfl⟩)]
      exact .inl ⟨9,by omega,rfl,aLoop_end (E43.bad1 K K f c xs a hx) (by simp)⟩
    by_cases b4:(i:Int)=4 ∧ 128 ≤ x
    · obtain ⟨q1,q2⟩:=b4
      obtain rfl:i=4:=by omega
      rw [if_pos (.inr ⟨rfl,q2⟩)]
      exact .inl ⟨9,by omega,rfl,aLoop_end (E43.bad4 K K f c xs a x hx q2 xb.2) (by simp)⟩
    rw [if_neg (fun h => h.elim b1 b4)]
    by_cases lt:x < 128
    · rw [if_pos lt]
      refine .inr ⟨128 * a + x % 128,i,by omega,by omega,i4,rfl,aLoop_end (E44.fin K K f c xs a x i hx i1 i4 xb.1 lt a0 (by omega)) (by simp)⟩
    · rw [if_neg lt]
      have st:=E42.go K K f c xs a x i hx i1 (by omega) (by omega) xb.2 (fun h => b1 ⟨by omega,h.2⟩) a0 (by omega)
      have:=loop K f c xs hb r (i + 1) (128 * a + x % 128) k hd (by omega) (by omega) (by omega) (by omega) (by omega) (by omega) (by omega) (by omega) (by omega)
      have e:((i + 1:Nat):Int)=(i:Int) + 1:=by omega
      rw [e] at this
      show (∃ e:Int,e ≠ 0 ∧ _ ∧ aLoop _ _ (k + 1) _=_) ∨ _
      unfold Lp at this ⊢
      rw [aLoop_succ st]
      exact this
end E45
end
section
open Ab Go TabE Sp E40 E41
namespace E46
theorem number (f c) (x:Int) (r:List Int) (hb:isB (x :: r)):Con E 31 167 [.sl f (bs (x :: r)) c] (.tup [.int .u32 (num r 1 0).1,.int .i64 (num r 1 0).2.1,.int .i64 (num r 1 0).2.2]):=by
  have L:=E45.loop 30 f c (x :: r) hb r 1 0 30 rfl (by omega) (by omega) (by simp) (by omega) (by omega) (by omega) (by omega) (by omega) (by omega)
  obtain ⟨xs,hxs⟩:∃ xs,x :: r=xs:=⟨_,rfl⟩
  rw [hxs] at L ⊢
  refine con_of E_fn167 (by simp [AV.pureL,AV.pure]) (Nat.le_of_ble_eq_true rfl) rfl rfl (g:=[]) ?_
  rw [body_167,c167]
  rcases L with ⟨e,e0,hn,L⟩ | ⟨v,j,v0,v1,j4,hn,L⟩
  · have hn':num r 1 0=(0,0,e):=hn
    rw [hn']
    simp [E45.Lp,b112,lp,lps,c167,firstReg,S] at L
    simp [↓s_seq,↓s_reg,↓s_block,↓s_cons,s_nil,s_loop,firstReg,s_val,s_rgx,s_sqn,s_sqr,s_bkr,s_finr,s_fin1,s_fix,s_clean,o_int,l_hit,l_miss,x_assign,frame0,resL,resA,results1,AV.pure,AV.pureL,keepT,gcH,sl_tup,L]
  · have hn':num r 1 0=(if v < 31 then (0,0,9) else (v,(j:Int) + 1,0)):=hn
    rw [hn']
    have w:=w64' ((j:Int) + 1) (by omega) (by omega)
    simp [E45.Lp,b112,lp,lps,c167,firstReg,S] at L
    by_cases h:v < 31
    · simp [↓s_seq,↓s_reg,↓s_cond,↓s_block,↓s_cons,s_nil,s_loop,firstReg,s_val,s_rgx,s_sqn,s_sqr,s_cdb,s_bke,s_ret',s_finr,s_fin1,s_fix,s_clean,o_tmp,o_int,l_hit,l_miss,x_move,x_assign,x_bin,bn_s,frame0,binA,intOp,resL,resA,results1,AV.pure,AV.pureL,keepT,gcH,sl_tup,L,h]
    · simp [↓s_seq,↓s_reg,↓s_cond,↓s_block,↓s_cons,s_nil,s_loop,firstReg,s_val,s_rgx,s_sqn,s_cdb,s_bke,s_ret',s_skip',s_finr,s_fin1,s_fix,s_clean,o_tmp,o_int,l_hit,l_miss,x_move,x_assign,x_bin,bn_s,frame0,binA,intOp,resL,resA,results1,AV.pure,AV.pureL,keepT,gcH,sl_tup,L,h,w]
end E46
end
section
open Ab Go TabE
attribute [local simp ↓] s_seq s_reg s_regd s_cond s_block s_cons s_consG s_regD
attribute [local simp] s_nil s_loop s_round s_lpn s_lpe s_lpr firstReg s_gt s_gf s_wb s_wu s_val s_valN s_skip s_calls s_callP s_cax lookR flatR pureKs s_ret s_rgx s_sqn s_sqr s_sqe s_cdb s_bkn s_bkr s_bke s_exit s_ret' s_skip' s_finr s_finn s_fin1 s_fix s_clean s_gc0 o_tmp o_int o_bool o_nil o_str o_fn o_nil' l_hit l_miss l_nil ol_nil ol_cons ol_some x_move x_assign x_pick pk_t pk_f x_bin bn_s x_un x_extract x_callF cl_no x_callB x_callBF frzV x_conv cvx convA frame0 binA intOp resL resA results1 sealLW AV.pure AV.pureL keepT x_alloc x_box bxx x_build bdx x_buildSlice bsx x_buildSliceF bsf x_load ldx x_store stx x_slice slx x_fieldAddr x_field x_index ixx x_indexAddr iax x_makeSlice msx x_makeSliceF msf x_nilCheck newK genOf setK lookK fillA writeL writeC readC conts TyI.mk1 sliceA boundsA boundsB fitsA numA indexAddrA fieldAddrA partA fieldA indexA appendA copyA builtinA AV.cells chunk gcH reach keysT keepK inKs AV.keys AV.keysL Ty.isAgg eq1 eqL convA.go ltI w_u8 w_u32 w_u64 w_i64 w_fdiv w_tdiv w_tmod IntKind.bits unA sc_int sc_bool sc_str sc_sl sc_ref sc_ptr sc_pel sc_nilp sc_fn sc_nilf sc_if sc_nili sc_agg sc_tup sc_mem bs_pure bs_kl bs_length bs_cells bs_all sl_row sealRow sealY sl_int sl_bool sl_str sl_sl sl_nilp sl_nilf sl_nili sl_pel sl_agg sl_tup sl_fn sl_if nat_1 bs_cons bs_nil i_beq i_bne x_mkF x_mkI x_tassert x_panic s_pan s_sqp s_bkp s_finp s_fixp s_lpp s_rgp s_retp s_site s_stxN s_stxO x_callT clx El.avs_len s_dyn0 s_rgy barOf dynChk footL dynOK disjK keysOp opVals Op.operands
section
open Ab Go TabE Sp E40 E41
namespace E47
theorem a31 (x:Int) (h0:0 ≤ x) (h1:x < 256):intOp .and .u8 x 31=some (.int .u8 (x % 32)):=by
  have q:∀ n:Fin 256,IntKind.u8.wrap (BitVec.ofInt 8 (n.val:Int) &&& BitVec.ofInt 8 31).toNat=(n.val:Int) % 32:=by decide +kernel
  obtain ⟨n,rfl⟩:=Int.eq_ofNat_of_zero_le h0
  have:=q ⟨n,by omega⟩
  show some (AV.int .u8 (IntKind.u8.wrap (BitVec.ofInt 8 (n:Int) &&& BitVec.ofInt 8 31).toNat))=_
  rw [this]
theorem a32 (x:Int) (h0:0 ≤ x) (h1:x < 256):intOp .and .u8 x 32=some (.int .u8 (x / 32 % 2 * 32)):=by
  have q:∀ n:Fin 256,IntKind.u8.wrap (BitVec.ofInt 8 (n.val:Int) &&& BitVec.ofInt 8 32).toNat=(n.val:Int) / 32 % 2 * 32:=by decide +kernel
  obtain ⟨n,rfl⟩:=Int.eq_ofNat_of_zero_le h0
  have:=q ⟨n,by omega⟩
  show some (AV.int .u8 (IntKind.u8.wrap (BitVec.ofInt 8 (n:Int) &&& BitVec.ofInt 8 32).toNat))=_
  rw [this]
theorem get (f c) (xs:List Int) (hb:isB xs):Con E 60 153 [.sl f (bs xs) c] (.tup [.agg [.int .u8 (gt xs).1.1,.bool (gt xs).1.2.1,.int .u32 (gt xs).1.2.2],.int .i64 (gt xs).2.1,.int .i64 (gt xs).2.2]):=by
  refine con_of E_fn153 (by simp [AV.pureL,AV.pure]) (Nat.le_of_ble_eq_true rfl) rfl rfl (g:=[]) ?_
  rw [body_153,c153]
  cases xs with
  | nil => simp [gt,bs_nil]
  | cons x r =>
    have xb:=hb x (List.mem_cons_self ..)
    have N:=E46.number f c x r hb 59 (by omega) 0
    have T:=fun n => E2.tag_ok (x / 64) (decide (x / 32 % 2=1)) n 59 (by omega) 0
    have h1:=a31 x xb.1 xb.2
    have h2:=a32 x xb.1 xb.2
    simp only [intOp] at h1 h2
    simp [IntKind.bits,w_u8] at h1 h2
    have ix:∀ hp,indexAddrA E 26 (.sl f (bs (x :: r)) c) (.int .i64 0) hp=some (.pel [.int .u8 x]):=byte_at f c (x :: r) 0 x rfl
    have gz:gt (x :: r)=(let p:=if x % 32=31 then num r 1 0 else (x % 32,1,0)
      let e:=if p.2.2=0 then tagE (x / 64) (decide (x / 32 % 2=1)) p.1 else p.2.2
      if e ≠ 0 then ((0,false,0),0,e) else ((x / 64,decide (x / 32 % 2=1),p.1),p.2.1,0)):=rfl
    have ne:(x :: r).length ≠ 0:=by simp
    obtain ⟨xs,hxs⟩:∃ xs,x :: r=xs:=⟨_,rfl⟩
    rw [gz]
    rw [hxs] at N ix ne ⊢
    obtain ⟨p,hp⟩:∃ p,num r 1 0=p:=⟨_,rfl⟩
    rw [hp] at N ⊢
    have w8:(x % 32) % 4294967296=x % 32:=Int.emod_eq_of_lt (by omega) (by omega)
    have w9:(x / 64) % 256=x / 64:=Int.emod_eq_of_lt (by omega) (by omega)
    have bk:(!decide (x / 32 % 2 * 32=0))=decide (x / 32 % 2=1):=by
      by_cases q:x / 32 % 2=1
      · rw [q]; rfl
      · have:x / 32 % 2=0:=by omega
        rw [this]; rfl
    by_cases h31:x % 32=31
    · by_cases pe:p.2.2=0
      · by_cases te:tagE (x / 64) (decide (x / 32 % 2=1)) p.1=0
        · simp [-indexAddrA,ix,N,T,h1,h2,h31,pe,te,ne,w8,w9,bk]
        · simp [-indexAddrA,ix,N,T,h1,h2,h31,pe,te,ne,w8,w9,bk]
      · simp [-indexAddrA,ix,N,T,h1,h2,h31,pe,ne,w8,w9,bk]
    · by_cases te:tagE (x / 64) (decide (x / 32 % 2=1)) (x % 32)=0
      · simp [-indexAddrA,ix,N,T,h1,h2,h31,te,ne,w8,w9,bk]
      · simp [-indexAddrA,ix,N,T,h1,h2,h31,te,ne,w8,w9,bk]
end E47
end
section
open Ab Go TabE Sp E40 E53 E56 E57
namespace E58
def retA:Option (ARes × Heap) → Option (ARes × Option AObj)
  | some (r,h) => some (r,lookK h (0,0,0))
  | none => none
theorem retA_eq {x:Option (ARes × Heap)} {r o} (h:retA x=some (r,o)):∃ hf,x=some (r,hf) ∧ lookK hf (0,0,0)=o:=by
  unfold retA at h
  split at h
  · cases h; exact ⟨_,rfl,rfl⟩
  · cases h
abbrev Go1 (K:Nat) (fl:Bool) (b:List Int) (cp:Option Nat) (a e:Nat) (d m:Int):=finA E fn133 (aCode E (site fn133 (aRun E K)) (dcall (aRun E K)) K 1 fn133 fn133.body ⟨frame0 [.ptr (0,0,0) 0,.int .i64 (a:Int),.int .i64 (e:Int),.int .i64 d] 0,[((0,0,0),R fl b cp m)]⟩)
abbrev What (K:Nat) (fl:Bool) (b:List Int) (cp:Option Nat) (a e:Nat) (d m:Int) (r:Rr):Prop:=match r with
  | .ok c n m' => retA (Go1 K fl b cp a e d m)=some (.ret (.tup [(dec1 c).av,.int .i64 (n:Int)]),some (R fl b cp m'))
  | .bad x y => ∃ m',retA (Go1 K fl b cp a e d m)=some (.panic [flt x y],some (R fl b cp m'))
abbrev St1 (fl:Bool) (b:List Int) (cp:Option Nat) (c n d m:Int) (a e:Nat):St:=⟨[(0,.ptr (0,0,0) 0),(1,.int .i64 (a:Int)),(2,.int .i64 (e:Int)),(3,.int .i64 d),(8,.ptr (1,8,0) 0),(14,.ptr (1,14,0) 0),(114,.bool false)],[((0,0,0),R fl b cp m),((1,8,0),bx Z),((1,14,0),bx [.int .u8 c,.bool true,.int .u32 n,.sl true [] (some 0),.sl true [] (some 0)])]⟩
theorem cl1 (fl b cp c n d m a e):cleanS 1 ((firstReg lpE).bind fn133.head) (St1 fl b cp c n d m a e)=cleanS 1 ((firstReg lpE).bind fn133.head) (E56.St0 fl b cp c n d m a e):=rfl
theorem step (f:Nat) (ih:∀ j,j < f + 1 → Kn j) (K:Nat) (hK:f + 200 ≤ K) (fl:Bool) (b:List Int) (cp:Option Nat) (a e:Nat) (d m:Int) (hn:fl=true → b=[]) (hb:isB b) (lb:b.length ≤ 100000000) (ha:a ≤ e) (he:e ≤ b.length) (d0:0 ≤ d) (d1:d ≤ 17) (m0:0 ≤ m) (m1:m ≤ 8192) (hf:e - a + 1 ≤ f + 1):What K fl b cp a e d m (rd (f + 1) b a e d m):=by
  have cut1:=cutR fl cp b a e ha he
  have T:=E47.get fl (cp.map fun q => q - a) _ (E55.isB_sub hb a e) K (by omega) 0
  have xl:=xs_len b (a:=a) he
  by_cases te0:(gt ((b.take e).drop a)).2.2=0
  case neg =>
    have g:=gt_n _ te0
    rw [rd_tag te0]
    generalize (gt ((b.take e).drop a)).2.2=te at g te0
    rw [g] at T
    by_cases t7:te=7
    · subst t7; rw [if_pos rfl]; refine ⟨m,?_⟩; rw [Go1,body_133,c133]; simp [-sliceA,cut1,T,retA]
    · rw [if_neg t7]; refine ⟨m,?_⟩; rw [Go1,body_133,c133]; simp [-sliceA,cut1,T,retA,t7,te0]
  obtain ⟨⟨⟨c,k,n⟩,ts,te⟩,hg⟩:∃ g,gt ((b.take e).drop a)=g:=⟨_,rfl⟩
  rw [hg] at te0
  simp only at te0
  subst te0
  obtain ⟨r,x1,rfl,t1,t2,t3⟩:=gt_back _ (E55.isB_sub hb a e) c k n ts hg
  have tb:=tagO_len c k n
  rw [x1,List.length_append] at xl
  have x2:(b.take e).drop (a + (TG.tagO c k n).length)=r:=by rw [← List.drop_drop,x1,List.drop_left']; rfl
  generalize (TG.tagO c k n).length=tl at *
  rw [hg] at T
  have t3':=tagE_3 t1
  have w1:=w64' ((a:Int) + tl) (by omega) (by omega)
  have w7:=w64' (m + 1) (by omega) (by omega)
  have cut2:=cutR fl cp b (a + tl) e (by omega) he
  rw [Int.natCast_add] at cut2
  have LG:=E50.lget fl (cp.map fun q => q - (a + tl)) _ (E55.isB_sub hb (a + tl) e) K (by omega) 0
  obtain ⟨⟨L,lS,le⟩,hl⟩:∃ g,gl ((b.take e).drop (a + tl))=g:=⟨_,rfl⟩
  have hl2:=hl
  rw [x2] at hl2
  rw [hl] at LG
  by_cases d16:16 < d
  · have:rd (f + 1) b a e d m=.bad a 12:=by
      rw [rd]; simp only [hg,Int.toNat_natCast]; rw [if_neg (by omega),if_neg (by simp),if_pos d16]
    rw [this]
    refine ⟨m,?_⟩; rw [Go1,body_133,c133]
    simp [-sliceA,cut1,T,retA,d16]
  by_cases m8:m=8192
  · have:rd (f + 1) b a e d m=.bad a 3:=by
      rw [rd]; simp only [hg,Int.toNat_natCast]; rw [if_neg (by omega),if_neg (by simp),if_neg d16,if_pos m8]
    rw [this]
    refine ⟨m,?_⟩; rw [Go1,body_133,c133]
    simp [-sliceA,cut1,T,retA,d16,m8]
  by_cases le0:le=0
  case neg =>
    have:=gl_n r (by rw [hl2]; exact le0)
    rw [hl2] at this
    simp only [Prod.mk.injEq] at this
    obtain ⟨rfl,rfl,_⟩:=this
    rw [rd_eq (ll:=0) hg hl,if_neg (by omega),if_neg (by simp),if_neg d16,if_neg m8]
    by_cases l7:le=7
    · subst l7; rw [if_pos rfl]; refine ⟨m + 1,?_⟩; rw [Go1,body_133,c133]; simp [-sliceA,cut1,cut2,T,LG,retA,d16,m8,w1,w7]
    · rw [if_neg l7,if_pos le0]; refine ⟨m + 1,?_⟩; rw [Go1,body_133,c133]; simp [-sliceA,cut1,cut2,T,LG,retA,d16,m8,w1,w7,l7,le0]
  subst le0
  have rb:isB r:=by rw [← x2]; exact E55.isB_sub hb _ e
  obtain ⟨r2,x3,rfl,l1,l2⟩:=gl_back r rb L lS hl2
  have ll1:=lenO_len L
  have xr:=xs_len b (a:=a + tl) he
  rw [x2,x3,List.length_append] at xr
  generalize (lenO L).length=ll at *
  obtain ⟨n',rfl⟩:=Int.eq_ofNat_of_zero_le l1
  rw [rd_eq hg hl,if_neg (by omega),if_neg (by simp),if_neg d16,if_neg m8,if_neg (by omega),if_neg (by simp),Int.toNat_natCast]
  have w2:=w64' ((e:Int) - ((a:Int) + tl)) (by omega) (by omega)
  have w4:=w64' ((e:Int) - ((a:Int) + tl) - ll) (by omega) (by omega)
  by_cases big:e < a + tl + ll + n'
  · have b2:(e:Int) - ((a:Int) + tl) - ll < n':=by omega
    rw [if_pos big]
    refine ⟨m + 1,?_⟩; rw [Go1,body_133,c133]
    simp [-sliceA,cut1,cut2,T,LG,retA,d16,m8,w1,w2,w4,w7,b2]
  have b2:¬ (e:Int) - ((a:Int) + tl) - ll < n':=by omega
  rw [if_neg big]
  have w5:=w64' ((a:Int) + tl + ll) (by omega) (by omega)
  have w6:=w64' ((a:Int) + tl + ll + n') (by omega) (by omega)
  have ec:((a + tl + ll:Nat):Int)=(a:Int) + tl + ll:=by omega
  have ec2:((a + tl + ll + n':Nat):Int)=(a:Int) + tl + ll + n':=by omega
  cases k with
  | false =>
    rw [if_pos rfl]
    have cut3:=cutR fl cp b (a + tl + ll) (a + tl + ll + n') (by omega) (by omega)
    rw [ec,ec2] at cut3
    have cl:=xs_len b (a:=a + tl + ll) (e:=a + tl + ll + n') (by omega)
    generalize (b.take (a + tl + ll + n')).drop (a + tl + ll)=y at cut3 cl ⊢
    have fl0:fl=false:=by
      cases hfl:fl with
      | false => rfl
      | true => exfalso; have:=hn hfl; subst this; simp at he; omega
    subst fl0
    obtain ⟨cq,hcq,C⟩:=E31.clone false y (cp.map fun q => q - (a + tl + ll)) (fun q => by cases q) (by omega)
    have P:=E31.clip false y cq hcq K (by omega) 0
    have C':=C K (by omega) 0
    rw [What,Go1,body_133,c133]
    simp [-sliceA,cut1,cut2,cut3,T,LG,C',P,retA,d16,m8,w1,w2,w4,w5,w6,w7,b2,dec1,decs1,El.av,El.avs]
  | true =>
    rw [if_neg (by simp)]
    have LP:=E57.loop K fl b cp c n d (a + tl + ll + n') hn hb lb (by omega) d0 (by omega) f (fun j hj => ih j (by omega)) (by omega) (a + tl + ll) (m + 1) [] K (by omega) (by omega) (by omega) (by simp; omega) (by omega) (by omega)
    rw [Sx,if_pos rfl,E57.Lp,← E51.aLoop_cl (cl1 fl b cp c n d (m + 1) (a + tl + ll) (a + tl + ll + n'))] at LP
    cases hr:rds f b (a + tl + ll) (a + tl + ll + n') (d + 1) (m + 1) with
    | inr p =>
      obtain ⟨x,y⟩:=p
      rw [hr] at LP
      obtain ⟨m',LP⟩:=LP
      obtain ⟨s,LP,hs⟩:=panA_eq LP
      refine ⟨m',?_⟩
      rw [Go1,body_133,c133]
      simp [St1,lpE,lp,lps,c133,firstReg,E53.Z,bx,R] at LP
      simp [-s_round,-sliceA,cut1,cut2,T,LG,LP,hs,retA,d16,m8,w1,w2,w4,w5,w6,w7,b2]
    | inl p =>
      obtain ⟨s,m'⟩:=p
      rw [hr] at LP
      simp only at LP
      obtain ⟨a2,LP⟩:=LP
      rw [List.nil_append,En] at LP
      simp only
      rw [What,Go1,body_133,c133]
      cases s with
      | nil =>
        have cl:=E56.clipE true [] (some 0) rfl K (by omega) 0
        rw [decs1,if_pos rfl] at LP
        simp [St1,lpE,lp,lps,c133,firstReg,E53.Z,bx,R] at LP
        simp at cl
        simp [-s_round,-sliceA,cut1,cut2,T,LG,LP,retA,d16,m8,w1,w2,w4,w5,w6,w7,b2,dec1,decs1,El.av,El.avs,cl]
      | cons x s =>
        rw [if_neg (by rw [decs1]; simp)] at LP
        have ln:=decs1_len (x :: s)
        have ds:dec1 (.mk c true n [] (x :: s))=.mk c true n true [] (some 0) false (decs1 (x :: s)) (some (decs1 (x :: s)).length):=by rw [dec1,ln]; rfl
        rw [ds,El.av]
        generalize decs1 (x :: s)=l at LP ⊢
        have cl:=E56.clipE false (El.avs l) none (El.avs_pure l) K (by omega) 0
        rw [El.avs_len] at cl
        simp [St1,lpE,lp,lps,c133,firstReg,E53.Z,bx,R] at LP
        have l1:=El.fl_len l
        have l2:=El.fl_keys l
        have l3:=El.fl_pure l
        have sx:=fun n h key => E32.sealX_fl n h key l none true false
        simp [-s_round,-sliceA,cut1,cut2,T,LG,LP,retA,d16,m8,w1,w2,w4,w5,w6,w7,b2,l1,l2,l3,sx,cl]
end E58
end
section
open Ab Go TabE Sp E40 E53 E56 E57
namespace E59
theorem elem:∀ f:Nat,E57.Kn f:=by
  intro f
  induction f using Nat.strongRecOn with
  | ind f ih =>
    cases f with
    | zero => intro fl b cp a e d m _ _ _ _ _ _ _ _ _ h; omega
    | succ f =>
      intro fl b cp a e d m hn hb lb ha he d0 d1 m0 m1 hf
      have W:=E58.step f ih (f + 200) (Nat.le_refl _) fl b cp a e d m hn hb lb ha he d0 d1 m0 m1 hf
      have run:∀ r hf',E58.Go1 (f + 200) fl b cp a e d m=some (r,hf') → ∀ q,f + 1 + 200 ≤ q → aRun E q 133 [.ptr (0,0,0) 0,.int .i64 (a:Int),.int .i64 (e:Int),.int .i64 d] [((0,0,0),R fl b cp m)]=some (r,hf'):=by
        intro r hf' hg q hq
        refine aRun_le E (f + 200 + 1) q (by omega) _ _ _ _ ?_
        rw [aRun_fn rfl E_fn133 rfl (Nat.le_of_ble_eq_true rfl)]
        exact hg
      cases hr:rd (f + 1) b a e d m with
      | ok c n m' =>
        rw [hr] at W
        obtain ⟨hf',w1,w2⟩:=E58.retA_eq W
        exact ⟨hf',w2,run _ _ w1⟩
      | bad x y =>
        rw [hr] at W
        obtain ⟨m',W⟩:=W
        obtain ⟨hf',w1,w2⟩:=E58.retA_eq W
        exact ⟨hf',m',w2,run _ _ w1⟩
theorem aCall_grd {E:Env} {f:FuncId} {fn:AFn} {gd:Grd} {args:List AV} {k slot:Nat} {h:Heap} (h1:E.prim f=none) (h2:E.fn f=some fn) (h3:E.grd f=some gd) (h4:AV.pureL args=true) (h5:args.length ≤ fn.ntmps) :
    aCall E (k + 1) slot f args h=sealR h (grdP E (aRun E k) k fn gd (aCodes E (site fn (aRun E k)) (dcall (aRun E k)) k 1 fn gd.pre ⟨frame0 args 0,[]⟩)):=by
  show sealed (aRun E (k + 1)) slot f args h=_
  unfold sealed
  rw [sealL_of_pure 19 args h h4]
  simp only [h4,if_true,aRun,h1,h2,h3,h5]
theorem con_grd {f:FuncId} {fn:AFn} {gd:Grd} {args:List AV} {v:AV} {K:Nat} {g:Heap} (h2:E.fn f=some fn) (h3:E.grd f=some gd) (h4:AV.pureL args=true) (h5:args.length ≤ fn.ntmps)
    (h:sealR [] (grdP E (aRun E K) K fn gd (aCodes E (site fn (aRun E K)) (dcall (aRun E K)) K 1 fn gd.pre ⟨frame0 args 0,[]⟩))=some (.ret v,g)) (h1:E.prim f=none:=by rfl):Con E (K + 1) f args v:=by
  refine .of (g:=g) h4 ?_
  rw [aCall_grd h1 h2 h3 h4 h5]
  exact h
abbrev H4:Heap:=[((1,2,0),bx Z),((1,3,0),bx [.int .i64 0]),((1,4,0),bx [.int .i64 0]),((1,5,0),bx [.int .i64 0])]
abbrev F4 (fl:Bool) (b:List Int) (cp:Option Nat):Fr:=[(0,.sl fl (bs b) cp),(2,.ptr (1,2,0) 0),(3,.ptr (1,3,0) 0),(4,.ptr (1,4,0) 0),(5,.ptr (1,5,0) 0)]
theorem pre (K:Nat) (fl b cp) (hl:b.length ≤ 1048576):aCodes E (site fn94 (aRun E K)) (dcall (aRun E K)) K 1 fn94 grd94.pre ⟨frame0 [.sl fl (bs b) cp] 0,[]⟩=some (.normal,⟨F4 fl b cp ++ [(9,.bool false)],H4⟩):=by
  have h1:¬ (1048576:Int) < b.length:=by omega
  have h2:¬ 1048576 < b.length:=by omega
  simp [grd94,aCodes,d94_0,d94_1,d94_2,h1,h2]
theorem long (fl b cp) (hl:1048576 < b.length):Con E 20 94 [.sl fl (bs b) cp] (.tup [zv,.int .i64 0,.int .i64 0,.int .i64 3]):=by
  refine con_grd E_fn94 E_grd94 (by simp [AV.pureL,AV.pure]) (Nat.le_of_ble_eq_true rfl) (g:=[]) ?_
  have h1:(1048576:Int) < b.length:=by omega
  simp [grd94,aCodes,d94_0,d94_1,d94_2,h1,hl,grdP]
theorem dfr (run:RunF) (n:Nat) (h4:Heap) (cs:List AV) (a b c:Int) (kc:AV.keysL cs=[]) (rc:∀ φ,AV.rnL φ cs=cs) (e1:lookK h4 (1,2,0)=some (bx cs)) (e2:lookK h4 (1,3,0)=some (bx [.int .i64 a])) (e3:lookK h4 (1,4,0)=some (bx [.int .i64 b])) (e4:lookK h4 (1,5,0)=some (bx [.int .i64 c])) (v:AV) (cs':List AV) (a' b' c':Int) (kc':AV.keysL cs'=[]) (rc':∀ φ,AV.rnL φ cs'=cs')
    (hr:∃ ex t,(ex=AExit.normal ∨ ex=.ret) ∧ aCodes E (site gfn94 run) (dcall run) n 1 gfn94 grd94.gpost ⟨[(4,v),(7,v),(0,.ptr (0,0,0) 0),(1,.ptr (0,0,1) 0),(2,.ptr (0,0,2) 0),(3,.ptr (0,0,3) 0)],[((0,0,0),bx cs),((0,0,1),bx [.int .i64 a]),((0,0,2),bx [.int .i64 b]),((0,0,3),bx [.int .i64 c])]⟩=some (ex,⟨t,[((0,0,0),bx cs'),((0,0,1),bx [.int .i64 a']),((0,0,2),bx [.int .i64 b']),((0,0,3),bx [.int .i64 c'])]⟩)) :
    dfrA E run n grd94 v [.ptr (1,2,0) 0,.ptr (1,3,0) 0,.ptr (1,4,0) 0,.ptr (1,5,0) 0] h4=some (.ret (.tup []),setK (setK (setK (setK h4 (1,2,0) (bx cs')) (1,3,0) (bx [.int .i64 a'])) (1,4,0) (bx [.int .i64 b'])) (1,5,0) (bx [.int .i64 c'])):=by
  obtain ⟨ex,t,hx,hr⟩:=hr
  unfold dfrA
  have ek:AV.keysL [AV.ptr (1,2,0) 0,.ptr (1,3,0) 0,.ptr (1,4,0) 0,.ptr (1,5,0) 0]=[(1,2,0),(1,3,0),(1,4,0),(1,5,0)]:=rfl
  rw [ek]
  have er:dd (reach h4 3 [(1,2,0),(1,3,0),(1,4,0),(1,5,0)])=[(1,2,0),(1,3,0),(1,4,0),(1,5,0)]:=by simp [reach,e1,e2,e3,e4,kc,AV.keysL,AV.keys,dd]
  rw [er]
  unfold lendA
  have el:lendH h4 (inK [(1,2,0),(1,3,0),(1,4,0),(1,5,0)]) [(1,2,0),(1,3,0),(1,4,0),(1,5,0)]=some [((0,0,0),bx cs),((0,0,1),bx [.int .i64 a]),((0,0,2),bx [.int .i64 b]),((0,0,3),bx [.int .i64 c])]:=by simp [lendH,e1,e2,e3,e4,inK,posK,rc,AV.rnL,AV.rn]
  rw [el]
  simp only [ek]
  have ec:closedH h4 [(1,2,0),(1,3,0),(1,4,0),(1,5,0)] [(1,2,0),(1,3,0),(1,4,0),(1,5,0)]=true:=by simp [closedH,e1,e2,e3,e4,kc,AV.keysL,AV.keys]
  rw [if_pos ⟨ec,by rfl⟩]
  have en:AV.rnL (inK [(1,2,0),(1,3,0),(1,4,0),(1,5,0)]) [AV.ptr (1,2,0) 0,.ptr (1,3,0) 0,.ptr (1,4,0) 0,.ptr (1,5,0) 0]=[.ptr (0,0,0) 0,.ptr (0,0,1) 0,.ptr (0,0,2) 0,.ptr (0,0,3) 0]:=by rfl
  rw [en]
  have eg:(List.map (fun r => (r,v)) grd94.rs ++ frame0 [AV.ptr (0,0,0) 0,.ptr (0,0,1) 0,.ptr (0,0,2) 0,.ptr (0,0,3) 0] 0)=[(4,v),(7,v),(0,.ptr (0,0,0) 0),(1,.ptr (0,0,1) 0),(2,.ptr (0,0,2) 0),(3,.ptr (0,0,3) 0)]:=rfl
  have er2:grd94.gfn=gfn94:=rfl
  rw [if_pos ⟨rfl,by decide,by rfl⟩,eg,er2,hr]
  have fin:backR [(1,2,0),(1,3,0),(1,4,0),(1,5,0)] 0 h4 false (some (.ret (.tup []),[((0,0,0),bx cs'),((0,0,1),bx [.int .i64 a']),((0,0,2),bx [.int .i64 b']),((0,0,3),bx [.int .i64 c'])]))=some (.ret (.tup []),setK (setK (setK (setK h4 (1,2,0) (bx cs')) (1,3,0) (bx [.int .i64 a'])) (1,4,0) (bx [.int .i64 b'])) (1,5,0) (bx [.int .i64 c'])):=by
    have e5:lentKs 4=[(0,0,0),(0,0,1),(0,0,2),(0,0,3)]:=rfl
    have e6:AV.keysL [AV.tup []]=[]:=rfl
    have e7:dd (reach [((0,0,0),bx cs'),((0,0,1),bx [.int .i64 a']),((0,0,2),bx [.int .i64 b']),((0,0,3),bx [.int .i64 c'])] 3 ([(0,0,0),(0,0,1),(0,0,2),(0,0,3)] ++ []))=[(0,0,0),(0,0,1),(0,0,2),(0,0,3)]:=by simp [reach,lookK,kc',AV.keysL,AV.keys,dd]
    have e8:closedH [((0,0,0),bx cs'),((0,0,1),bx [.int .i64 a']),((0,0,2),bx [.int .i64 b']),((0,0,3),bx [.int .i64 c'])] [(0,0,0),(0,0,1),(0,0,2),(0,0,3)] [(0,0,0),(0,0,1),(0,0,2),(0,0,3)]=true:=by simp [closedH,lookK,kc',AV.keysL,AV.keys]
    simp only [backR,Bool.false_eq_true,if_false,backV,Ab.back,List.length_cons,List.length_nil,e5,e6,e7,backA]
    rw [if_pos ⟨e8,by rfl,by rfl,by rfl⟩]
    simp [AV.rnL,AV.rn,outK,putAll,lookK,rc']
  rcases hx with rfl | rfl
  · exact fin
  · exact fin
end E59
end
section
open Ab Go TabE Sp E40 E53 E56 E57 E59
namespace E60
def res1:Rr → AV
  | .ok c n m => .tup [(dec1 c).av,.int .i64 (n:Int),.int .i64 0,.int .i64 0]
  | .bad x y => .tup [zv,.int .i64 0,.int .i64 x,.int .i64 y]
abbrev F5 (fl:Bool) (b:List Int) (cp:Option Nat):Fr:=(11,.fn 132 [] [.ptr (1,2,0) 0,.ptr (1,3,0) 0,.ptr (1,4,0) 0,.ptr (1,5,0) 0]) :: (F4 fl b cp ++ [(9,.bool false)])
theorem post_ok (K:Nat) (fl b cp) (x:El) (n:Nat) (m:Int) (hl:b.length ≤ 1048576) (C:∀ h,lookK h (2,6,0)=some (R fl b cp 0) → opened [true,false,false,false] true (aRun E K) 17 133 [.ptr (2,6,0) 0,.int .i64 0,.int .i64 (b.length:Int),.int .i64 1] h=some (.ret (.tup [x.av,.int .i64 (n:Int)]),setK h (2,6,0) (R fl b cp m))) :
    aCodes E (site fn94 (aRun E K)) (dcall (aRun E K)) K 2 fn94 grd94.post ⟨F5 fl b cp,H4⟩=some (.ret,⟨[(2,.ptr (1,2,0) 0),(3,.ptr (1,3,0) 0),(4,.ptr (1,4,0) 0),(5,.ptr (1,5,0) 0)],[((1,2,0),bx (ec x)),((1,3,0),bx [.int .i64 (n:Int)]),((1,4,0),bx [.int .i64 0]),((1,5,0),bx [.int .i64 0])]⟩):=by
  rw [El.av_eq] at C
  simp [grd94,aCodes,d94_4,d94_5,d94_6,d94_7,C]
def panB:Option (AExit × St) → Option (List AV × List (Option AV) × List (Option AObj))
  | some (.panic ch,s) => some (ch,[lookT s.t 2,lookT s.t 3,lookT s.t 4,lookT s.t 5],[lookK s.h (1,2,0),lookK s.h (1,3,0),lookK s.h (1,4,0),lookK s.h (1,5,0)])
  | _ => none
theorem panB_eq {x:Option (AExit × St)} {ch a b} (h:panB x=some (ch,a,b)):∃ s,x=some (.panic ch,s) ∧ a=[lookT s.t 2,lookT s.t 3,lookT s.t 4,lookT s.t 5] ∧ b=[lookK s.h (1,2,0),lookK s.h (1,3,0),lookK s.h (1,4,0),lookK s.h (1,5,0)]:=by
  unfold panB at h
  split at h
  · cases h; exact ⟨_,rfl,rfl,rfl⟩
  · cases h
theorem post_bad (K:Nat) (fl b cp) (x y m:Int) (hl:b.length ≤ 1048576) (C:∀ h,lookK h (2,6,0)=some (R fl b cp 0) → opened [true,false,false,false] true (aRun E K) 17 133 [.ptr (2,6,0) 0,.int .i64 0,.int .i64 (b.length:Int),.int .i64 1] h=some (.panic [flt x y],setK h (2,6,0) (R fl b cp m))) :
    panB (aCodes E (site fn94 (aRun E K)) (dcall (aRun E K)) K 2 fn94 grd94.post ⟨F5 fl b cp,H4⟩)=some ([flt x y],[some (.ptr (1,2,0) 0),some (.ptr (1,3,0) 0),some (.ptr (1,4,0) 0),some (.ptr (1,5,0) 0)],[some (bx Z),some (bx [.int .i64 0]),some (bx [.int .i64 0]),some (bx [.int .i64 0])]):=by
  simp [grd94,aCodes,d94_4,d94_5,d94_6,d94_7,C,s_retp2,panB]
abbrev Hd (cs:List AV) (a b c:Int):Heap:=[((0,0,0),bx cs),((0,0,1),bx [.int .i64 a]),((0,0,2),bx [.int .i64 b]),((0,0,3),bx [.int .i64 c])]
def normA:Option (AExit × St) → Option Heap
  | some (.normal,s) => some s.h
  | _ => none
theorem normA_eq {x:Option (AExit × St)} {h} (e:normA x=some h):∃ ex t,(ex=AExit.normal ∨ ex=.ret) ∧ x=some (ex,⟨t,h⟩):=by
  unfold normA at e
  split at e
  · cases e; exact ⟨_,_,.inl rfl,rfl⟩
  · cases e
theorem o_ni {E:Env} {t:Fr}:opd E t (.const .nilIface)=some .nili:=rfl
theorem gp_ok (run:RunF) (n:Nat) (cs:List AV) (a b c:Int) (kc:AV.keysL cs=[]):normA (aCodes E (site gfn94 run) (dcall run) n 1 gfn94 grd94.gpost ⟨[(4,.nili),(7,.nili),(0,.ptr (0,0,0) 0),(1,.ptr (0,0,1) 0),(2,.ptr (0,0,2) 0),(3,.ptr (0,0,3) 0)],Hd cs a b c⟩)=some (Hd cs a b c):=by
  simp [normA,grd94,gfn94,aCodes,e94_0,e94_1,o_ni,kc]
theorem gp_bad (run:RunF) (n:Nat) (x y:Int):normA (aCodes E (site gfn94 run) (dcall run) n 1 gfn94 grd94.gpost ⟨[(4,flt x y),(7,flt x y),(0,.ptr (0,0,0) 0),(1,.ptr (0,0,1) 0),(2,.ptr (0,0,2) 0),(3,.ptr (0,0,3) 0)],Hd Z 0 0 0⟩)=some (Hd Z 0 x y):=by
  simp [normA,grd94,gfn94,aCodes,e94_0,e94_1,o_ni,flt]
theorem next (fl:Bool) (b:List Int) (cp:Option Nat) (hn:fl=true → b=[]) (hb:isB b) (hl:b.length ≤ 1048576):Con E (b.length + 300) 94 [.sl fl (bs b) cp] (res1 (rd (b.length + 2) b 0 b.length 1 0)):=by
  obtain ⟨K,hK⟩:∃ K,b.length + 299=K:=⟨_,rfl⟩
  have eK:b.length + 300=K + 1:=by omega
  rw [eK]
  have W:=E59.elem (b.length + 2) fl b cp 0 b.length 1 0 hn hb (by omega) (by omega) (Nat.le_refl _) (by omega) (by omega) (by omega) (by omega) (by omega)
  have cv:opdL E (F4 fl b cp ++ [(9,.bool false)]) (grd94.caps.map Operand.tmp)=some [.ptr (1,2,0) 0,.ptr (1,3,0) 0,.ptr (1,4,0) 0,.ptr (1,5,0) 0]:=rfl
  cases hr:rd (b.length + 2) b 0 b.length 1 0 with
  | ok c n m =>
    rw [hr] at W
    obtain ⟨hf,q1,q2⟩:=W
    have P:=post_ok K fl b cp (dec1 c) n m hl fun h hk => E56.op_ok hk rfl (R_keys _ _ _ _) (fun φ => R_rn _ _ _ _ φ) rfl (R_keys _ _ _ _) (fun φ => R_rn _ _ _ _ φ) (by simp [AV.pure,AV.pureL,El.av_pure]) (q2 K (by omega)) q1
    have kc:AV.keysL (ec (dec1 c))=[]:=rfl
    have D:=dfr (aRun E K) K [((1,2,0),bx (ec (dec1 c))),((1,3,0),bx [.int .i64 (n:Int)]),((1,4,0),bx [.int .i64 0]),((1,5,0),bx [.int .i64 0])] (ec (dec1 c)) (n:Int) 0 0 kc (fun φ => rfl) rfl rfl rfl rfl .nili (ec (dec1 c)) n 0 0 kc (fun φ => rfl) (normA_eq (gp_ok (aRun E K) K _ _ _ _ kc))
    refine con_grd E_fn94 E_grd94 (by simp [AV.pureL,AV.pure]) (Nat.le_of_ble_eq_true rfl) (g:=[]) ?_
    rw [pre K fl b cp hl]
    simp only [grdP,cv]
    show sealR [] (match putT 22 (F4 fl b cp ++ [(9,.bool false)]) (some 11) (.fn 132 [] [.ptr (1,2,0) 0,.ptr (1,3,0) 0,.ptr (1,4,0) 0,.ptr (1,5,0) 0]) with
      | some t => if (AV.keysL [.ptr (1,2,0) 0,.ptr (1,3,0) 0,.ptr (1,4,0) 0,.ptr (1,5,0) 0]).all (fun k => decide (k.1 < 2))=true then grdR E (aRun E K) K fn94 grd94 [.ptr (1,2,0) 0,.ptr (1,3,0) 0,.ptr (1,4,0) 0,.ptr (1,5,0) 0] (aCodes E (site fn94 (aRun E K)) (dcall (aRun E K)) K 2 fn94 grd94.post ⟨t,H4⟩) else none
      | none => none)=_
    have pt:putT 22 (F4 fl b cp ++ [(9,.bool false)]) (some 11) (.fn 132 [] [.ptr (1,2,0) 0,.ptr (1,3,0) 0,.ptr (1,4,0) 0,.ptr (1,5,0) 0])=some (F5 fl b cp):=rfl
    rw [pt]
    simp only
    rw [if_pos (by rfl),P]
    simp only [grdR,D,grdE,res1]
    rw [El.av_eq]
    simp []
  | bad x y =>
    rw [hr] at W
    obtain ⟨hf,m,q1,q2⟩:=W
    have P:=post_bad K fl b cp x y m hl fun h hk => E56.op_bad hk rfl (R_keys _ _ _ _) (fun φ => R_rn _ _ _ _ φ) rfl (R_keys _ _ _ _) (fun φ => R_rn _ _ _ _ φ) rfl (q2 K (by omega)) q1
    obtain ⟨s,P,p1,p2⟩:=panB_eq P
    simp only [List.cons.injEq,and_true] at p1 p2
    obtain ⟨a1,a2,a3,a4⟩:=p1
    obtain ⟨b1,b2,b3,b4⟩:=p2
    have D:=dfr (aRun E K) K s.h Z 0 0 0 rfl (fun φ => rfl) b1.symm b2.symm b3.symm b4.symm (flt x y) Z 0 x y rfl (fun φ => rfl) (normA_eq (gp_bad (aRun E K) K x y))
    refine con_grd E_fn94 E_grd94 (by simp [AV.pureL,AV.pure]) (Nat.le_of_ble_eq_true rfl) (g:=[]) ?_
    rw [pre K fl b cp hl]
    simp only [grdP,cv]
    show sealR [] (match putT 22 (F4 fl b cp ++ [(9,.bool false)]) (some 11) (.fn 132 [] [.ptr (1,2,0) 0,.ptr (1,3,0) 0,.ptr (1,4,0) 0,.ptr (1,5,0) 0]) with
      | some t => if (AV.keysL [.ptr (1,2,0) 0,.ptr (1,3,0) 0,.ptr (1,4,0) 0,.ptr (1,5,0) 0]).all (fun k => decide (k.1 < 2))=true then grdR E (aRun E K) K fn94 grd94 [.ptr (1,2,0) 0,.ptr (1,3,0) 0,.ptr (1,4,0) 0,.ptr (1,5,0) 0] (aCodes E (site fn94 (aRun E K)) (dcall (aRun E K)) K 2 fn94 grd94.post ⟨t,H4⟩) else none
      | none => none)=_
    have pt:putT 22 (F4 fl b cp ++ [(9,.bool false)]) (some 11) (.fn 132 [] [.ptr (1,2,0) 0,.ptr (1,3,0) 0,.ptr (1,4,0) 0,.ptr (1,5,0) 0])=some (F5 fl b cp):=rfl
    rw [pt]
    simp only
    rw [if_pos (by rfl),P]
    obtain ⟨st,sh⟩:=s
    simp only at a1 a2 a3 a4 D
    have pf:(flt x y).pure=true:=rfl
    simp only [grdR,pf,if_true,D,grdE,res1]
    obtain ⟨h1,e1⟩:∃ h1,setK (setK (setK (setK sh (1,2,0) (bx Z)) (1,3,0) (bx [.int .i64 0])) (1,4,0) (bx [.int .i64 x])) (1,5,0) (bx [.int .i64 y])=h1:=⟨_,rfl⟩
    have l2:lookK h1 (1,2,0)=some (bx Z):=by rw [← e1]; simp [lookK_setK]
    have l3:lookK h1 (1,3,0)=some (bx [.int .i64 0]):=by rw [← e1]; simp [lookK_setK]
    have l4:lookK h1 (1,4,0)=some (bx [.int .i64 x]):=by rw [← e1]; simp [lookK_setK]
    have l5:lookK h1 (1,5,0)=some (bx [.int .i64 y]):=by rw [← e1]; simp [lookK_setK]
    rw [e1]
    simp [← a1,← a2,← a3,← a4,l2,l3,l4,l5,zv]
end E60
end
end
