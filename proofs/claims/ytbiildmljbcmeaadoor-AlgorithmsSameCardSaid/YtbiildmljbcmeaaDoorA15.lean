/- The law AlgorithmsSame at the evaluator: true of any two algorithms. Written by gA15.py. No conditions. -/
import Derived.Test.YtbiildmljbcmeaaDoorA14
import Derived.Test.YtbiildmljbcmeaaDoorF31
open Ab Go TabE Sp E34 F1 Rw F5 F6 F7 F8 F43 F47 AP A1 A2 A6 A7 A10 K3 A12 A13
set_option maxRecDepth 20000
set_option linter.unusedSimpArgs false
set_option linter.unusedVariables false
set_option maxHeartbeats 8000000
namespace A15
def ob (i:Int):List Int:=OP.octs (if 3 < i then 5 else 4) [1,2,840,i % 4,if 3 < i then 127 + i % 4 else 0,0,0,0,0,0,0,0,0,0,0,0]
theorem ob_all:∀ i:Fin 8,∀ j:Fin 8,ob (i.val:Int)=ob (j.val:Int) → i=j:=by decide +kernel
theorem ob_B:∀ i:Fin 8,(ob (i.val:Int)).all (fun x => decide (0 ≤ x ∧ x < 256))=true ∧ (ob (i.val:Int)).length ≤ 100:=by decide +kernel
def oc (k:Int):List Int:=OP.octs (A9.oN k) [1,2,840,k % 4,A9.oX k,0,0,0,0,0,0,0,0,0,0,0]
theorem oc_eq (k:Int):oc k=ob (k % 8):=by
  unfold oc ob A9.oN A9.oX
  rw [show k % 8 % 4=k % 4 from by omega]
theorem m8 (k:Int):∃ i:Fin 8,k % 8=(i.val:Int):=⟨⟨(k % 8).toNat,by omega⟩,by simp; omega⟩
theorem oc_inj (k k':Int) (h:oc k=oc k'):k % 8=k' % 8:=by
  rw [oc_eq,oc_eq] at h
  obtain ⟨i,hi⟩:=m8 k
  obtain ⟨j,hj⟩:=m8 k'
  rw [hi,hj] at h ⊢
  rw [ob_all i j h]
theorem oc_B (k:Int):isB (oc k) ∧ (oc k).length ≤ 100:=by
  obtain ⟨i,hi⟩:=m8 k
  rw [oc_eq,hi]
  have:=ob_B i
  refine ⟨fun x hx => ?_,this.2⟩
  simpa using List.all_eq_true.1 this.1 x hx
theorem ids (k k':Int) (h:k % 8=k' % 8):A9.oN k=A9.oN k' ∧ k % 4=k' % 4 ∧ A9.oX k=A9.oX k':=by
  have e:k % 4=k' % 4:=by omega
  unfold A9.oN A9.oX
  rw [h,e]
  exact ⟨rfl,rfl,rfl⟩
theorem ids' (k k':Int) (h:¬ k % 8=k' % 8):¬ (A9.oN k=A9.oN k' ∧ k % 4=k' % 4 ∧ A9.oX k=A9.oX k'):=by
  unfold A9.oN A9.oX
  rintro ⟨h1,h2,h3⟩
  by_cases a:3 < k % 8 <;> by_cases b:3 < k' % 8 <;> simp [a,b] at h1 <;> omega
abbrev bE (ps:List Int):Bool:=!ps.isEmpty
theorem ofC (k:Int) (k0:0 ≤ k) (k1:k < 256) (fp:Bool) (ps:List Int) (cp:Option Nat) (fb:Bool) (l:List Int) (cb:Option Nat) (un:Int) (hp:isB ps):Con E 300 29 [.agg (A9.ac k fp ps cp fb l cb un)] (ag (A9.oN k) 1 2 840 (k % 4) (A9.oX k) 0 0 0 0 0 0 0 0 0 0 0 (bE ps) (A9.pE ps)):=by
  cases ps with
  | nil => exact A9.of_nil k k0 k1 fp cp fb l cb un
  | cons a r => exact A9.of_cons k k0 k1 fp cp fb l cb un a r hp
theorem pE_ok (ps:List Int) (hp:isB ps):(A9.pE ps).ok:=by
  cases ps with
  | nil => exact A4.z_ok
  | cons a r =>
    simp only [A9.pE]
    split
    · rw [El.ok_eq]; exact ⟨by simp [El.c],by simp [El.n],by simp [El.b,isB],by simp [El.b],by simp [El.s],fun y hy => by cases hy⟩
    · exact (F11.ofT_Tw (a :: r) hp).1.ok
abbrev kc_ (l:List Int):Option Nat:=if l=[] then some 0 else none
theorem keyC (k:Int) (k0:0 ≤ k) (k1:k < 256) (fp:Bool) (ps:List Int) (cp:Option Nat) (fb:Bool) (l:List Int) (cb:Option Nat) (un:Int) (hp:isB ps) (hl:isB l) (u0:0 ≤ un) (u1:un < 256):Con E 601 30 [.agg (A9.ac k fp ps cp fb l cb un)] (kg (A9.oN k) 1 2 840 (k % 4) (A9.oX k) 0 0 0 0 0 0 0 0 0 0 0 (bE ps) (A9.pE ps) l.isEmpty (kb l un) (kc_ l) (km l un)):=by
  have O:=ofC k k0 k1 fp ps cp fb l cb un hp 600 (by omega) 0
  cases l with
  | nil => exact A11.key0 k fp ps cp fb cb un _ _ _ _ _ _ _ _ _ _ _ _ _ _ _ _ _ _ _ O
  | cons x r => exact A11.keyR k fp ps cp fb (x :: r) cb un _ _ _ _ _ _ _ _ _ _ _ _ _ _ _ _ _ _ _ (by simp) hl u0 u1 O
theorem kb_len (l:List Int) (un:Int):(kb l un).length=(l.take 20).length:=by unfold kb; rw [List.length_set]
theorem kb_B (l:List Int) (un:Int) (hl:isB l):isB (kb l un):=by
  intro x hx
  unfold kb at hx
  rcases List.mem_or_eq_of_mem_set hx with h | h
  · exact hl x (List.mem_of_mem_take h)
  · subst h
    have hz:0 ≤ (l.take 20).getLastD 0 ∧ (l.take 20).getLastD 0 < 256:=by
      cases h:(l.take 20).getLast? with
      | none => rw [List.getLastD_eq_getLast?,h]; simp
      | some z =>
        rw [List.getLastD_eq_getLast?,h]
        exact hl z (List.mem_of_mem_take (List.mem_of_getLast? h))
    generalize (l.take 20).getLastD 0=z at hz ⊢
    have h7:(un % 8).toNat=0 ∨ (un % 8).toNat=1 ∨ (un % 8).toNat=2 ∨ (un % 8).toNat=3 ∨ (un % 8).toNat=4 ∨ (un % 8).toNat=5 ∨ (un % 8).toNat=6 ∨ (un % 8).toNat=7:=by omega
    rcases h7 with h | h | h | h | h | h | h | h <;> rw [h] <;> simp <;> omega
theorem km_rg (l:List Int) (un:Int) (u0:0 ≤ un):0 ≤ 8 * ((kb l un).length:Int) - km l un ∧ 8 * ((kb l un).length:Int) - km l un ≤ 7:=by
  rw [kb_len]
  unfold km
  split
  · rename_i h; subst h; simp
  · omega
theorem bitsC (l:List Int) (un:Int) (u0:0 ≤ un):∃ c,Con E 20 79 [.sl l.isEmpty (bs (kb l un)) (kc_ l),.int .i64 (km l un)] (rb ((8 * ((kb l un).length:Int) - km l un) :: kb l un) c).av:=by
  cases l with
  | nil => exact ⟨some 1,A12.bits0 true (some 0)⟩
  | cons x r =>
    have r:=km_rg (x :: r) un u0
    refine ⟨none,A12.bits _ _ _ _ ?_ ?_ r.1 r.2⟩
    · intro h
      have:=congrArg List.length h
      rw [kb_len] at this
      simp at this
    · rw [kb_len,List.length_take]; omega
theorem oidC (k:Int) (k0:0 ≤ k) (k1:k < 256):∃ N c,Con E N 74 [.agg [.int .u8 (A9.oN k),.int .u32 1,.int .u32 2,.int .u32 840,.int .u32 (k % 4),.int .u32 (A9.oX k),.int .u32 0,.int .u32 0,.int .u32 0,.int .u32 0,.int .u32 0,.int .u32 0,.int .u32 0,.int .u32 0,.int .u32 0,.int .u32 0,.int .u32 0]] (.sl false (bs (oc k)) c):=by
  have h:=B1o.oid (A9.oN k) 1 2 [840,k % 4,A9.oX k,0,0,0,0,0,0,0,0,0,0,0] rfl (by unfold A9.oN; split <;> omega) (by unfold A9.oN; split <;> omega) (fun z hz => by
    have h1:0 ≤ A9.oX k ∧ A9.oX k < 4294967296:=by unfold A9.oX; split <;> omega
    simp only [List.mem_cons,List.not_mem_nil,or_false] at hz
    rcases hz with rfl | rfl | rfl | rfl | rfl | rfl | rfl | rfl | rfl | rfl | rfl | rfl | rfl | rfl | rfl | rfl <;> omega) (by omega)
  exact h
def yE (k:Int) (c:Option Nat) (ps:List Int):El:=if bE ps=true then rt [ro (oc k) c,A9.pE ps] none else rt [ro (oc k) c] none
theorem refC (k:Int) (k0:0 ≤ k) (k1:k < 256) (ps:List Int):∃ N c,Con E N 23 [ag (A9.oN k) 1 2 840 (k % 4) (A9.oX k) 0 0 0 0 0 0 0 0 0 0 0 (bE ps) (A9.pE ps)] (yE k c ps).av:=by
  obtain ⟨N,c,O⟩:=oidC k k0 k1
  refine ⟨N + 31,c,?_⟩
  have o:=O (N + 30) (by omega) 0
  unfold yE
  cases h:bE ps with
  | true => exact A12.ref2 (N + 30) (by omega) _ _ _ _ _ _ _ _ _ _ _ _ _ _ _ _ _ _ _ _ o
  | false => exact A12.ref1 (N + 30) (by omega) _ _ _ _ _ _ _ _ _ _ _ _ _ _ _ _ _ _ _ _ o
theorem ro_ok (k:Int) (c):(ro (oc k) c).ok:=by
  have:=oc_B k
  rw [El.ok_eq]
  exact ⟨by simp [El.c],by simp [El.n],this.1,by simp only [El.b]; omega,by simp [El.s],fun y hy => by cases hy⟩
theorem yE_ok (k:Int) (c) (ps:List Int) (hp:isB ps):(yE k c ps).ok:=by
  have h1:=ro_ok k c
  have h2:=pE_ok ps hp
  unfold yE
  split
  · rw [El.ok_eq]
    refine ⟨by simp [El.c],by simp [El.n],by simp [El.b,isB],by simp [El.b],by simp [El.s],fun y hy => ?_⟩
    rcases List.mem_cons.1 hy with rfl | hy
    · exact h1
    · rw [List.mem_singleton.1 hy]; exact h2
  · rw [El.ok_eq]
    refine ⟨by simp [El.c],by simp [El.n],by simp [El.b,isB],by simp [El.b],by simp [El.s],fun y hy => ?_⟩
    rw [List.mem_singleton.1 hy]; exact h1
theorem yE_core (k k':Int) (c c' ps ps'):(yE k c ps).core=(yE k' c' ps').core ↔ (k % 8=k' % 8 ∧ bE ps=bE ps' ∧ (bE ps=true → (A9.pE ps).core=(A9.pE ps').core)):=by
  have a:∀ s s':List El,(rt s none).core=(rt s' none).core ↔ El.cores s=El.cores s':=fun s s' => by
    rw [El.core_inj]
    simp [El.c,El.k,El.n,El.b,El.s]
  have b:∀ o o':List Int,(ro o c).core=(ro o' c').core ↔ o=o':=fun o o' => by
    rw [El.core_inj]
    simp [El.c,El.k,El.n,El.b,El.s]
  have ok:oc k=oc k' ↔ k % 8=k' % 8:=⟨oc_inj k k',fun h => by rw [oc_eq,oc_eq,h]⟩
  unfold yE
  cases h:bE ps <;> cases h':bE ps' <;> simp [a,El.cores_map,b,ok]
abbrev zE (y:El) (l:List Int) (un:Int) (c:Option Nat):El:=rt [y,rb ((8 * ((kb l un).length:Int) - km l un) :: kb l un) c] (some 2)
theorem zE_core (y y':El) (l l':List Int) (un un':Int) (c c'):(zE y l un c).core=(zE y' l' un' c').core ↔ (y.core=y'.core ∧ km l un=km l' un' ∧ kb l un=kb l' un'):=by
  have b:∀ o o':List Int,(rb o c).core=(rb o' c').core ↔ o=o':=fun o o' => by
    rw [El.core_inj]
    simp [El.c,El.k,El.n,El.b,El.s]
  have a:∀ s s':List El,(rt s (some 2)).core=(rt s' (some 2)).core ↔ El.cores s=El.cores s':=fun s s' => by
    rw [El.core_inj]
    simp [El.c,El.k,El.n,El.b,El.s]
  rw [a,El.cores_map,El.cores_map]
  simp only [List.map,List.cons.injEq,b,and_true]
  constructor
  · rintro ⟨h1,h2,h3⟩
    rw [h3] at h2
    exact ⟨h1,by omega,h3⟩
  · rintro ⟨h1,h2,h3⟩
    rw [h2,h3]
    exact ⟨h1,rfl,rfl⟩
theorem zE_ok (y:El) (l:List Int) (un:Int) (c) (hy:y.ok) (hl:isB l) (u0:0 ≤ un):(zE y l un c).ok:=by
  have r:=km_rg l un u0
  have kB:=kb_B l un hl
  have kL:=kb_len l un
  rw [List.length_take] at kL
  rw [El.ok_eq]
  refine ⟨by simp [El.c],by simp [El.n],by simp [El.b,isB],by simp [El.b],by simp [El.s],fun z hz => ?_⟩
  rcases List.mem_cons.1 hz with rfl | hz
  · exact hy
  · rw [List.mem_singleton.1 hz,El.ok_eq]
    refine ⟨by simp [El.c],by simp [El.n],?_,?_,by simp [El.s],fun y hy => by cases hy⟩
    · intro x hx
      rcases List.mem_cons.1 hx with rfl | hx
      · omega
      · exact kB x hx
    · simp only [El.b,List.length_cons]; omega
theorem sameC (a b:El) (ha:a.ok) (hb:b.ok) (v:Bool) (hv:v=true ↔ a.core=b.core):∃ N,Con E N 20 [a.av,b.av] (.int .i64 (if v then 1 else 0)):=by
  cases v with
  | true => exact F1.same a b ha (hv.1 rfl)
  | false => exact S2.differ a b ha hb fun h => by have:=hv.2 h; cases this
theorem algC (k k':Int) (ps ps':List Int) (hp:isB ps) (hp':isB ps') (v:Bool) (hv:v=true ↔ (k % 8=k' % 8 ∧ bE ps=bE ps' ∧ (bE ps=true → (A9.pE ps).core=(A9.pE ps').core))):∃ N,Con E N 32 [ag (A9.oN k) 1 2 840 (k % 4) (A9.oX k) 0 0 0 0 0 0 0 0 0 0 0 (bE ps) (A9.pE ps),ag (A9.oN k') 1 2 840 (k' % 4) (A9.oX k') 0 0 0 0 0 0 0 0 0 0 0 (bE ps') (A9.pE ps')] (.bool v):=by
  by_cases h1:k % 8=k' % 8
  case neg =>
    have e:v=false:=by cases v; rfl; exact absurd (hv.1 rfl).1 h1
    subst e
    exact ⟨30,A13.sameI _ _ _ _ _ _ _ _ _ _ (ids' k k' h1)⟩
  obtain ⟨e1,e2,e3⟩:=ids k k' h1
  rw [e1,e2,e3]
  by_cases h2:bE ps=bE ps'
  case neg =>
    have e:v=false:=by cases v; rfl; exact absurd (hv.1 rfl).2.1 h2
    subst e
    have e4:bE ps' = !(bE ps):=by
      revert h2
      generalize bE ps=u
      generalize bE ps'=w
      cases u <;> cases w <;> simp
    rw [e4]
    exact ⟨30,A13.sameB _ _ _ _ _ _ _ _ _ _ _ _ _ _ _ _ _ _ _ _⟩
  rw [h2]
  have pc:(A9.pE ps).core=(A9.pE ps').core ↔ v=true:=by
    rw [hv]
    constructor
    · exact fun h => ⟨h1,h2,fun _ => h⟩
    · rintro ⟨_,_,h⟩
      cases q:bE ps with
      | true => exact h q
      | false =>
        have a:ps=[]:=by simpa [bE] using q
        have b:ps'=[]:=by rw [q] at h2; simpa [bE] using h2.symm
        rw [a,b]
  cases v with
  | true =>
    obtain ⟨N,e⟩:=AE.eqT _ _ (pE_ok ps hp) (pE_ok ps' hp') (pc.2 rfl)
    exact ⟨N + 31,A13.same (N + 30) (by omega) _ _ _ _ _ _ _ _ _ _ _ _ _ _ _ _ _ _ _ _ _ (e _ (by omega) 0)⟩
  | false =>
    obtain ⟨N,e⟩:=AE.eqF _ _ (pE_ok ps hp) (pE_ok ps' hp') (fun h => by have:=pc.1 h; cases this)
    exact ⟨N + 31,A13.same (N + 30) (by omega) _ _ _ _ _ _ _ _ _ _ _ _ _ _ _ _ _ _ _ _ _ (e _ (by omega) 0)⟩
theorem law (k:Int) (k0:0 ≤ k) (k1:k < 256) (fp:Bool) (ps:List Int) (cp:Option Nat) (fb:Bool) (l:List Int) (cb:Option Nat) (un:Int) (hp:isB ps) (hl:isB l) (u0:0 ≤ un) (u1:un < 256)
    (k':Int) (k0':0 ≤ k') (k1':k' < 256) (fp':Bool) (ps':List Int) (cp':Option Nat) (fb':Bool) (l':List Int) (cb':Option Nat) (un':Int) (hp':isB ps') (hl':isB l') (u0':0 ≤ un') (u1':un' < 256) :
    ∃ N,Con E N 5 [.agg (A9.ac k fp ps cp fb l cb un),.agg (A9.ac k' fp' ps' cp' fb' l' cb' un')] (.bool true):=by
  have a1:=ofC k k0 k1 fp ps cp fb l cb un hp
  have a2:=ofC k' k0' k1' fp' ps' cp' fb' l' cb' un' hp'
  have a3:=keyC k k0 k1 fp ps cp fb l cb un hp hl u0 u1
  have a4:=keyC k' k0' k1' fp' ps' cp' fb' l' cb' un' hp' hl' u0' u1'
  obtain ⟨N1,c1,r1⟩:=refC k k0 k1 ps
  obtain ⟨N2,c2,r2⟩:=refC k' k0' k1' ps'
  obtain ⟨d1,b1⟩:=bitsC l un u0
  obtain ⟨d2,b2⟩:=bitsC l' un' u0'
  have o1:=yE_ok k c1 ps hp
  have o2:=yE_ok k' c2 ps' hp'
  have yc:=yE_core k k' c1 c2 ps ps'
  have zc:=zE_core (yE k c1 ps) (yE k' c2 ps') l l' un un' d1 d2
  have p1:=zE_ok (yE k c1 ps) l un d1 o1 hl u0
  have p2:=zE_ok (yE k' c2 ps') l' un' d2 o2 hl' u0'
  obtain ⟨v1,hv1⟩:∃ v:Bool,v=true ↔ (yE k c1 ps).core=(yE k' c2 ps').core:=by
    by_cases h:(yE k c1 ps).core=(yE k' c2 ps').core
    · exact ⟨true,by simp [h]⟩
    · exact ⟨false,by simp [h]⟩
  obtain ⟨N3,s1⟩:=sameC _ _ o1 o2 v1 hv1
  obtain ⟨N5,t1⟩:=algC k k' ps ps' hp hp' v1 (by rw [hv1,yc])
  obtain ⟨N6,t3⟩:=algC k k ps ps hp hp true ⟨fun _ => ⟨rfl,rfl,fun _ => rfl⟩,fun _ => rfl⟩
  obtain ⟨N7,t4⟩:=algC k' k' ps' ps' hp' hp' true ⟨fun _ => ⟨rfl,rfl,fun _ => rfl⟩,fun _ => rfl⟩
  obtain ⟨N4,s2⟩:=sameC _ _ p1 p2 (v1 && (decide (km l un=km l' un') && decide (kb l un=kb l' un'))) (by rw [zc,← hv1,Bool.and_eq_true,Bool.and_eq_true,decide_eq_true_iff,decide_eq_true_iff])
  obtain ⟨K,hK⟩:∃ K,N1 + N2 + N3 + N4 + N5 + N6 + N7 + 1000=K:=⟨_,rfl⟩
  have t2:=A13.skey (K - 1) (by omega) _ _ _ _ _ _ _ _ _ _ _ _ _ _ _ _ _ _ _ _ _ _ _ _ _ _ _ _ _ _ _ _ _ _ (bE ps) (bE ps') (A9.pE ps) (A9.pE ps') l.isEmpty l'.isEmpty (kb l un) (kb l' un') (kc_ l) (kc_ l') (km l un) (km l' un') (kb_B l un hl) (kb_B l' un' hl') v1 (fun h => t1 _ (by omega) 0 h) K (by omega) 0
  have t5:=A13.skey (K - 1) (by omega) _ _ _ _ _ _ _ _ _ _ _ _ _ _ _ _ _ _ _ _ _ _ _ _ _ _ _ _ _ _ _ _ _ _ (bE ps') (bE ps') (A9.pE ps') (A9.pE ps') l'.isEmpty l'.isEmpty (kb l' un') (kb l' un') (kc_ l') (kc_ l') (km l' un') (km l' un') (kb_B l' un' hl') (kb_B l' un' hl') true (fun h => t4 _ (by omega) 0 h) K (by omega) 0
  simp only [decide_true,Bool.and_self] at t5
  have r3:=A12.rkey (K - 1) (by omega) _ _ _ _ _ _ _ _ _ _ _ _ _ _ _ _ _ (bE ps) (A9.pE ps) l.isEmpty (kb l un) (kc_ l) (km l un) _ _ (fun h => r1 _ (by omega) 0 h) (fun h => b1 _ (by omega) 0 h) K (by omega) 0
  have r4:=A12.rkey (K - 1) (by omega) _ _ _ _ _ _ _ _ _ _ _ _ _ _ _ _ _ (bE ps') (A9.pE ps') l'.isEmpty (kb l' un') (kc_ l') (km l' un') _ _ (fun h => r2 _ (by omega) 0 h) (fun h => b2 _ (by omega) 0 h) K (by omega) 0
  exact ⟨K + 1,A14.main K (by omega) k fp ps cp fb l cb un k' fp' ps' cp' fb' l' cb' un' _ _ _ _ _ _ _ _ _ _ _ _ _ _ _ _ _ _ _ _ _ _ _ _ _ _ _ _ _ _ _ _ _ _ _ _ _ _ _ _ _ _ _ _ _ _ _ _ _ _ v1 _ (a1 _ (by omega) 0) (a2 _ (by omega) 0) (a3 _ (by omega) 0) (a4 _ (by omega) 0) (r1 _ (by omega) 0) (r2 _ (by omega) 0) r3 r4 (s1 _ (by omega) 0) (s2 _ (by omega) 0) (t1 _ (by omega) 0) t2 (t3 _ (by omega) 0) t5⟩
end A15
