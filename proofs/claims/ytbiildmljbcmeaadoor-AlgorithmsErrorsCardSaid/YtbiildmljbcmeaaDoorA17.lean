/- The law AlgorithmsErrors at the evaluator: true of any algorithm and any bits. Written by gA17.py. No conditions. -/
import Derived.Test.YtbiildmljbcmeaaDoorA16
import Derived.Test.YtbiildmljbcmeaaDoorA12
import Derived.Test.YtbiildmljbcmeaaDoorA4
open Ab Go TabE Sp E34 F1 Rw F5 F6 F7 F8 F43 F47 AP A1 A2 A6 A7 A10 K1 K3 A12 A8
set_option maxRecDepth 20000
set_option linter.unusedSimpArgs false
set_option linter.unusedVariables false
set_option maxHeartbeats 8000000
namespace A17
theorem oct_B (v:Int) (k:Nat):0 ≤ OG.oct v k ∧ OG.oct v k < 256:=by
  unfold OG.oct
  generalize v / 2 ^ (7 * k)=u
  split <;> omega
theorem grp_B (v:Int):isB (OG.grp v):=by
  intro x hx
  unfold OG.grp at hx
  split at hx <;> simp only [List.mem_cons,List.not_mem_nil,or_false] at hx
  · subst hx; exact oct_B _ _
  · rcases hx with rfl | rfl <;> exact oct_B _ _
  · rcases hx with rfl | rfl | rfl <;> exact oct_B _ _
  · rcases hx with rfl | rfl | rfl | rfl <;> exact oct_B _ _
  · rcases hx with rfl | rfl | rfl | rfl | rfl <;> exact oct_B _ _
theorem fm_len:∀ l:List Int,(l.flatMap OG.grp).length ≤ 5 * l.length
  | [] => by simp
  | v :: l => by
    have h1:=(B0h.grp_len v).2
    have h2:=fm_len l
    rw [List.flatMap_cons,List.length_append,List.length_cons]
    omega
theorem octs_B (n:Int) (xs:List Int):isB (OP.octs n xs):=by
  intro x hx
  unfold OP.octs at hx
  obtain ⟨v,_,hv⟩:=List.mem_flatMap.1 hx
  exact grp_B v x hv
theorem octs_len (n:Int) (xs:List Int) (h:xs.length=16):(OP.octs n xs).length ≤ 1000:=by
  have h1:=fm_len (OP.subs n xs)
  have h2:(OP.subs n xs).length ≤ 16:=by
    unfold OP.subs
    split
    · simp only [List.length_cons,List.length_take] at h ⊢
      omega
    · simp
  unfold OP.octs
  omega
theorem bld_ok (n:Int) (xs:List Int) (h:xs.length=16) (b:Bool) (p:El) (hp:p.ok):(bld n xs b p).ok:=by
  have l1:=octs_len n xs h
  have lo:(lf (OP.octs n xs)).ok:=lf_ok _ (octs_B n xs) (by omega)
  unfold bld
  split
  · refine tp_ok _ _ (fun u hu => ?_) (by simp)
    rcases List.mem_cons.1 hu with rfl | hu
    · exact lo
    · rw [List.mem_singleton.1 hu]; exact cl_ok _ hp
  · exact tp_ok _ _ (fun u hu => by rw [List.mem_singleton.1 hu]; exact lo) (by simp)
def rE (n:Int) (xs:List Int) (c:Option Nat) (b:Bool) (p:El):El:=if b=true then rt [ro (OP.octs n xs) c,p] none else rt [ro (OP.octs n xs) c] none
theorem rE_core (n:Int) (xs:List Int) (c:Option Nat) (b:Bool) (p:El):(rE n xs c b p).core=(bld n xs b p).core:=by
  unfold rE bld
  split
  · rw [El.core_inj]
    refine ⟨rfl,rfl,rfl,rfl,?_⟩
    show El.cores [_,_]=El.cores [_,_]
    rw [El.cores_map,El.cores_map]
    simp only [List.map,cl_core]
    rfl
  · rw [El.core_inj]
    exact ⟨rfl,rfl,rfl,rfl,rfl⟩
theorem rE_ok (n:Int) (xs:List Int) (h:xs.length=16) (c:Option Nat) (b:Bool) (p:El) (hp:p.ok):(rE n xs c b p).ok:=by
  have l1:=octs_len n xs h
  have o:=octs_B n xs
  have r1:(ro (OP.octs n xs) c).ok:=by
    rw [El.ok_eq]
    exact ⟨by simp [El.c],by simp [El.n],o,by simp only [El.b]; omega,by simp [El.s],fun y hy => by cases hy⟩
  unfold rE
  split
  · rw [El.ok_eq]
    refine ⟨by simp [El.c],by simp [El.n],by simp [El.b,isB],by simp [El.b],by simp [El.s],fun y hy => ?_⟩
    rcases List.mem_cons.1 hy with rfl | hy
    · exact r1
    · rw [List.mem_singleton.1 hy]; exact hp
  · rw [El.ok_eq]
    refine ⟨by simp [El.c],by simp [El.n],by simp [El.b,isB],by simp [El.b],by simp [El.s],fun y hy => ?_⟩
    rw [List.mem_singleton.1 hy]; exact r1
theorem z_iff (p:El):zE p=true ↔ p.core=E32.z0.core:=by
  unfold zE
  rw [El.core_inj]
  have hs:El.cores p.s=El.cores E32.z0.s ↔ p.s=[]:=by
    constructor
    · intro h
      have:=El.cores_len h
      exact List.length_eq_zero_iff.1 this
    · intro h
      rw [h]; rfl
  rw [hs]
  have e1:E32.z0.c=0:=rfl
  have e2:E32.z0.k=false:=rfl
  have e3:E32.z0.n=0:=rfl
  have e4:E32.z0.b=[]:=rfl
  rw [e1,e2,e3,e4]
  simp [Bool.and_eq_true]
theorem rC (n x0 x1 x2 x3 x4 x5 x6 x7 x8 x9 x10 x11 x12 x13 x14 x15:Int) (b:Bool) (p:El) (hx:∀ x ∈ [x0,x1,x2,x3,x4,x5,x6,x7,x8,x9,x10,x11,x12,x13,x14,x15],0 ≤ x ∧ x < 4294967296) (hok:OP.okB n [x0,x1,x2,x3,x4,x5,x6,x7,x8,x9,x10,x11,x12,x13,x14,x15]=true):∃ N c,Con E N 23 [ag n x0 x1 x2 x3 x4 x5 x6 x7 x8 x9 x10 x11 x12 x13 x14 x15 b p] (rE n [x0,x1,x2,x3,x4,x5,x6,x7,x8,x9,x10,x11,x12,x13,x14,x15] c b p).av:=by
  unfold OP.okB at hok
  simp only [Bool.and_eq_true,decide_eq_true_eq] at hok
  obtain ⟨⟨k1,k2,k3,k4,k5⟩,_⟩:=hok
  have b0:=hx x0 (by simp)
  have b1:=hx x1 (by simp)
  obtain ⟨N,c,O⟩:=B0g.oid n x0 x1 [x2,x3,x4,x5,x6,x7,x8,x9,x10,x11,x12,x13,x14,x15] rfl k1 k2 hx (by omega)
  have O:Con E N 74 [.agg [.int .u8 n,.int .u32 x0,.int .u32 x1,.int .u32 x2,.int .u32 x3,.int .u32 x4,.int .u32 x5,.int .u32 x6,.int .u32 x7,.int .u32 x8,.int .u32 x9,.int .u32 x10,.int .u32 x11,.int .u32 x12,.int .u32 x13,.int .u32 x14,.int .u32 x15]] (.sl false (bs (OP.octs n [x0,x1,x2,x3,x4,x5,x6,x7,x8,x9,x10,x11,x12,x13,x14,x15])) c):=O
  have o:=O (N + 30) (by omega) 0
  refine ⟨N + 31,c,?_⟩
  unfold rE
  cases b with
  | true => exact A12.ref2 (N + 30) (by omega) n x0 x1 x2 x3 x4 x5 x6 x7 x8 x9 x10 x11 x12 x13 x14 x15 p _ c o
  | false => exact A12.ref1 (N + 30) (by omega) n x0 x1 x2 x3 x4 x5 x6 x7 x8 x9 x10 x11 x12 x13 x14 x15 p _ c o
theorem law (n x0 x1 x2 x3 x4 x5 x6 x7 x8 x9 x10 x11 x12 x13 x14 x15:Int) (b:Bool) (p:El) (fb:Bool) (l:List Int) (cb:Option Nat) (m:Int) (hn:0 ≤ n ∧ n < 256) (hx:∀ x ∈ [x0,x1,x2,x3,x4,x5,x6,x7,x8,x9,x10,x11,x12,x13,x14,x15],0 ≤ x ∧ x < 4294967296) (hp:p.ok) (nn:E31.Nn p) (hl:isB l):∃ N,Con E N 4 [ag n x0 x1 x2 x3 x4 x5 x6 x7 x8 x9 x10 x11 x12 x13 x14 x15 b p,.sl fb (bs l) cb,.int .i64 m] (.bool true):=by
  obtain ⟨Nf,few⟩:=Q20.few_con p hp
  have few':=fun K (hK:Nf ≤ K) => few K hK 0 40 (by omega) (by omega) (by omega) (by omega)
  by_cases hq:(FW.few 100 40 p.core 40 0).1=0 ∨ 100 < l.length
  · exact ⟨_,A16.many (Nf + 200) (by omega) n x0 x1 x2 x3 x4 x5 x6 x7 x8 x9 x10 x11 x12 x13 x14 x15 b p fb l cb m _ _ (few' (Nf + 200) (by omega)) hq⟩
  have hr:(FW.few 100 40 p.core 40 0).1 ≠ 0:=fun h => hq (.inl h)
  have ll:l.length ≤ 100:=by have:¬ 100 < l.length:=fun h => hq (.inr h); omega
  have fe:=FW.few_fe 100 40 p 40 0 hr
  have wd:=A8.fe_wd p fe
  have sh:=A8.fe_sh p fe
  have OC:=A6.check n x0 x1 x2 x3 x4 x5 x6 x7 x8 x9 x10 x11 x12 x13 x14 x15 hn hx
  have bo:=bld_ok n [x0,x1,x2,x3,x4,x5,x6,x7,x8,x9,x10,x11,x12,x13,x14,x15] rfl b p hp
  obtain ⟨N1,EL,CK⟩:=A7.elem n x0 x1 x2 x3 x4 x5 x6 x7 x8 x9 x10 x11 x12 x13 x14 x15 b p hn hx hp wd nn sh bo
  have BE:=K1.elem fb cb l m hl (by omega)
  have zo:=A4.z_ok
  have BE':∃ N,Con E N 25 [.sl fb (bs l) cb,.int .i64 m] (.tup [(if T34.ck l m=0 then lb ((8 * (l.length:Int) - m) :: l) (1 + l.length) else E32.z0).av,.int .i64 (T34.ck l m)]):=by
    refine ⟨120,?_⟩
    have e:(if T34.ck l m=0 then lb ((8 * (l.length:Int) - m) :: l) (1 + l.length) else E32.z0).av=(if T34.ck l m=0 then (lb ((8 * (l.length:Int) - m) :: l) (1 + l.length)).av else E32.z0.av):=by split <;> rfl
    rw [e]
    exact BE
  have lbo:T34.ck l m=0 → (lb ((8 * (l.length:Int) - m) :: l) (1 + l.length)).ok:=fun h => by
    have q:=K1.ck_rg h
    rw [El.ok_eq]
    refine ⟨by simp [El.c],by simp [El.n],?_,?_,by simp [El.s],fun y hy => by cases hy⟩
    · intro x hx
      rcases List.mem_cons.1 hx with rfl | hx
      · omega
      · exact hl x hx
    · simp only [El.b,List.length_cons]; omega
  have zbo:(if T34.ck l m=0 then lb ((8 * (l.length:Int) - m) :: l) (1 + l.length) else E32.z0).ok:=by
    split
    · rename_i h; exact lbo h
    · exact zo
  have tp2:∀ y z:El,y.ok → z.ok → (tp [y,z] 2).ok:=fun y z hy hz => tp_ok _ _ (fun t ht => by
    rcases List.mem_cons.1 ht with rfl | ht
    · exact hy
    · rw [List.mem_singleton.1 ht]; exact hz) (by simp)
  have bad:∀ w:Int,w ≠ 0 → er n [x0,x1,x2,x3,x4,x5,x6,x7,x8,x9,x10,x11,x12,x13,x14,x15] b p=w → ∃ N,Con E N 19 [ag n x0 x1 x2 x3 x4 x5 x6 x7 x8 x9 x10 x11 x12 x13 x14 x15 b p] (.tup [zel,.int .i64 w]) ∧ Con E N 24 [ag n x0 x1 x2 x3 x4 x5 x6 x7 x8 x9 x10 x11 x12 x13 x14 x15 b p] (.int .i64 w) ∧ Con E N 27 [kg n x0 x1 x2 x3 x4 x5 x6 x7 x8 x9 x10 x11 x12 x13 x14 x15 b p fb l cb m] (.tup [zel,.int .i64 w]) ∧ Con E N 28 [kg n x0 x1 x2 x3 x4 x5 x6 x7 x8 x9 x10 x11 x12 x13 x14 x15 b p fb l cb m] (.int .i64 w):=fun w hw he => by
    rw [he] at EL CK
    rw [if_neg hw] at EL
    obtain ⟨N2,KY,KC⟩:=K4.key n x0 x1 x2 x3 x4 x5 x6 x7 x8 x9 x10 x11 x12 x13 x14 x15 b p E32.z0 _ fb l cb m w (T34.ck l m) ⟨N1,EL⟩ BE' (tp2 _ _ zo zbo)
    have e:K4.kw E32.z0 (if T34.ck l m=0 then lb ((8 * (l.length:Int) - m) :: l) (1 + l.length) else E32.z0) w (T34.ck l m)=w:=by unfold K4.kw; rw [if_pos hw]
    rw [e,if_neg hw] at KY
    rw [e] at KC
    exact ⟨N1 + N2,EL.mono (by omega),CK.mono (by omega),KY.mono (by omega),KC.mono (by omega)⟩
  cases hok:OP.okB n [x0,x1,x2,x3,x4,x5,x6,x7,x8,x9,x10,x11,x12,x13,x14,x15] with
  | false =>
    rw [hok] at OC
    obtain ⟨N,h1,h2,h3,h4⟩:=bad 1 (by decide) (by unfold er; rw [hok,if_pos rfl])
    obtain ⟨K,hK⟩:∃ K,Nf + N + 300=K:=⟨_,rfl⟩
    exact ⟨_,A16.badI K (by omega) n x0 x1 x2 x3 x4 x5 x6 x7 x8 x9 x10 x11 x12 x13 x14 x15 b p fb l cb m _ _ (few' K (by omega)) hr ll (OC _ (by omega) 0) (h1 _ (by omega) 0) (h2 _ (by omega) 0) (h3 _ (by omega) 0) (h4 _ (by omega) 0)⟩
  | true =>
    rw [hok] at OC
    simp only [if_true] at OC
    by_cases hz:b=false ∧ zE p=false
    · obtain ⟨N,h1,h2,h3,h4⟩:=bad 1 (by decide) (by unfold er; rw [hok,if_neg (by simp),if_pos hz])
      obtain ⟨rfl,hz⟩:=hz
      obtain ⟨N3,SP⟩:=S2.differ p E32.z0 hp zo (fun h => by have:=(z_iff p).2 h; rw [hz] at this; cases this)
      obtain ⟨K,hK⟩:∃ K,Nf + N + N3 + 300=K:=⟨_,rfl⟩
      exact ⟨_,A16.badH K (by omega) n x0 x1 x2 x3 x4 x5 x6 x7 x8 x9 x10 x11 x12 x13 x14 x15 p fb l cb m _ _ (few' K (by omega)) hr ll (OC _ (by omega) 0) (SP _ (by omega) 0) (h1 _ (by omega) 0) (h2 _ (by omega) 0) (h3 _ (by omega) 0) (h4 _ (by omega) 0)⟩
    obtain ⟨N4,c,RF⟩:=rC n x0 x1 x2 x3 x4 x5 x6 x7 x8 x9 x10 x11 x12 x13 x14 x15 b p hx hok
    have ro':=rE_ok n [x0,x1,x2,x3,x4,x5,x6,x7,x8,x9,x10,x11,x12,x13,x14,x15] rfl c b p hp
    have rc':=rE_core n [x0,x1,x2,x3,x4,x5,x6,x7,x8,x9,x10,x11,x12,x13,x14,x15] c b p
    obtain ⟨N5,CY⟩:=E10.check _ ro'
    have ee:er n [x0,x1,x2,x3,x4,x5,x6,x7,x8,x9,x10,x11,x12,x13,x14,x15] b p=(chk (bld n [x0,x1,x2,x3,x4,x5,x6,x7,x8,x9,x10,x11,x12,x13,x14,x15] b p).core 1 0 0).1:=by unfold er; rw [hok,if_neg (by simp),if_neg hz]
    rw [rc',← ee] at CY
    obtain ⟨N6,SY⟩:=F1.same (bld n [x0,x1,x2,x3,x4,x5,x6,x7,x8,x9,x10,x11,x12,x13,x14,x15] b p) (rE n [x0,x1,x2,x3,x4,x5,x6,x7,x8,x9,x10,x11,x12,x13,x14,x15] c b p) bo rc'.symm
    have spF:b=false → ∃ N,Con E N 20 [p.av,zel] (.int .i64 1):=fun hb => by
      have:zE p=true:=by cases q:zE p; exact absurd ⟨hb,q⟩ hz; rfl
      exact F1.same p E32.z0 hp ((z_iff p).1 this)
    by_cases hw:er n [x0,x1,x2,x3,x4,x5,x6,x7,x8,x9,x10,x11,x12,x13,x14,x15] b p=0
    case neg =>
      obtain ⟨N,h1,h2,h3,h4⟩:=bad _ hw rfl
      cases b with
      | true =>
        obtain ⟨K,hK⟩:∃ K,Nf + N + N4 + N5 + 300=K:=⟨_,rfl⟩
        exact ⟨_,A16.badET K (by omega) n x0 x1 x2 x3 x4 x5 x6 x7 x8 x9 x10 x11 x12 x13 x14 x15 p fb l cb m _ _ (few' K (by omega)) hr ll (OC _ (by omega) 0) _ _ hw (RF _ (by omega) 0) (CY _ (by omega) 0) (h1 _ (by omega) 0) (h2 _ (by omega) 0) (h3 _ (by omega) 0) (h4 _ (by omega) 0)⟩
      | false =>
        obtain ⟨N7,SP⟩:=spF rfl
        obtain ⟨K,hK⟩:∃ K,Nf + N + N4 + N5 + N7 + 300=K:=⟨_,rfl⟩
        exact ⟨_,A16.badEF K (by omega) n x0 x1 x2 x3 x4 x5 x6 x7 x8 x9 x10 x11 x12 x13 x14 x15 p fb l cb m _ _ (few' K (by omega)) hr ll (OC _ (by omega) 0) (SP _ (by omega) 0) _ _ hw (RF _ (by omega) 0) (CY _ (by omega) 0) (h1 _ (by omega) 0) (h2 _ (by omega) 0) (h3 _ (by omega) 0) (h4 _ (by omega) 0)⟩
    rw [hw] at EL CK CY
    rw [if_pos rfl] at EL
    obtain ⟨N2,KY,KC⟩:=K4.key n x0 x1 x2 x3 x4 x5 x6 x7 x8 x9 x10 x11 x12 x13 x14 x15 b p (bld n [x0,x1,x2,x3,x4,x5,x6,x7,x8,x9,x10,x11,x12,x13,x14,x15] b p) _ fb l cb m 0 (T34.ck l m) ⟨N1,EL⟩ BE' (tp2 _ _ bo zbo)
    by_cases hc:T34.ck l m=0
    case neg =>
      have e:∀ y z:El,K4.kw y z 0 (T34.ck l m)=T34.ck l m:=fun y z => by unfold K4.kw; rw [if_neg (by simp),if_pos hc]
      rw [e,if_neg hc] at KY
      rw [e] at KC
      obtain ⟨N8,BE2⟩:=BE'
      rw [if_neg hc] at BE2
      cases b with
      | true =>
        obtain ⟨K,hK⟩:∃ K,Nf + N1 + N2 + N4 + N5 + N6 + N8 + 300=K:=⟨_,rfl⟩
        exact ⟨_,A16.badBT K (by omega) n x0 x1 x2 x3 x4 x5 x6 x7 x8 x9 x10 x11 x12 x13 x14 x15 p fb l cb m _ _ (few' K (by omega)) hr ll (OC _ (by omega) 0) _ _ _ _ hc (RF _ (by omega) 0) (CY _ (by omega) 0) (EL _ (by omega) 0) (CK _ (by omega) 0) (SY _ (by omega) 0) (BE2 _ (by omega) 0) (KY _ (by omega) 0) (KC _ (by omega) 0)⟩
      | false =>
        obtain ⟨N7,SP⟩:=spF rfl
        obtain ⟨K,hK⟩:∃ K,Nf + N1 + N2 + N4 + N5 + N6 + N7 + N8 + 300=K:=⟨_,rfl⟩
        exact ⟨_,A16.badBF K (by omega) n x0 x1 x2 x3 x4 x5 x6 x7 x8 x9 x10 x11 x12 x13 x14 x15 p fb l cb m _ _ (few' K (by omega)) hr ll (OC _ (by omega) 0) (SP _ (by omega) 0) _ _ _ _ hc (RF _ (by omega) 0) (CY _ (by omega) 0) (EL _ (by omega) 0) (CK _ (by omega) 0) (SY _ (by omega) 0) (BE2 _ (by omega) 0) (KY _ (by omega) 0) (KC _ (by omega) 0)⟩
    rw [hc] at KY KC BE'
    simp only [if_true] at KY KC BE'
    obtain ⟨N8,BE2⟩:=BE'
    obtain ⟨N9,CE⟩:=E10.check _ (tp2 _ _ bo (lbo hc))
    have e:∀ y z:El,K4.kw y z 0 0=(chk (tp [y,z] 2).core 1 0 0).1:=fun y z => by unfold K4.kw; rw [if_neg (by simp),if_neg (by simp)]
    rw [e] at KY KC
    cases b with
    | true =>
      obtain ⟨K,hK⟩:∃ K,Nf + N1 + N2 + N4 + N5 + N6 + N8 + N9 + 300=K:=⟨_,rfl⟩
      exact ⟨_,A16.okT K (by omega) n x0 x1 x2 x3 x4 x5 x6 x7 x8 x9 x10 x11 x12 x13 x14 x15 p fb l cb m _ _ (few' K (by omega)) hr ll (OC _ (by omega) 0) _ _ _ _ (RF _ (by omega) 0) (CY _ (by omega) 0) (EL _ (by omega) 0) (CK _ (by omega) 0) (SY _ (by omega) 0) (BE2 _ (by omega) 0) (CE _ (by omega) 0) (KY _ (by omega) 0) (KC _ (by omega) 0)⟩
    | false =>
      obtain ⟨N7,SP⟩:=spF rfl
      obtain ⟨K,hK⟩:∃ K,Nf + N1 + N2 + N4 + N5 + N6 + N7 + N8 + N9 + 300=K:=⟨_,rfl⟩
      exact ⟨_,A16.okF K (by omega) n x0 x1 x2 x3 x4 x5 x6 x7 x8 x9 x10 x11 x12 x13 x14 x15 p fb l cb m _ _ (few' K (by omega)) hr ll (OC _ (by omega) 0) (SP _ (by omega) 0) _ _ _ _ (RF _ (by omega) 0) (CY _ (by omega) 0) (EL _ (by omega) 0) (CK _ (by omega) 0) (SY _ (by omega) 0) (BE2 _ (by omega) 0) (CE _ (by omega) 0) (KY _ (by omega) 0) (KC _ (by omega) 0)⟩
end A17
