/- The fields of an algorithm and of a key, in plain Lean. No conditions. -/
import Derived.Test.YtbiildmljbcmeaaDoorF11
import Derived.Test.YtbiildmljbcmeaaDoorF6
import Derived.Test.YtbiildmljbcmeaaDoorOH
open Ab Go TabE Sp E34 F1 Rw F5 F6 F7 F8
set_option maxRecDepth 20000
set_option linter.unusedSimpArgs false
set_option linter.unusedVariables false
set_option maxHeartbeats 8000000
namespace AP
abbrev tS:Int × Bool × Int:=(0,true,16)
abbrev lA:List Fld:=[⟨0,false,6,false,false⟩,⟨0,false,0,true,true⟩]
theorem mt_eq (x:Fld) (y:El) (h:x.any=false):F7.mt x y=true ↔ x.c=y.c ∧ x.k=y.k ∧ x.n=y.n:=by
  unfold F7.mt; rw [h]; simp
theorem mt_any (x:Fld) (y:El) (h:x.any=true):F7.mt x y=true:=by unfold F7.mt; rw [h]; rfl
theorem casesA (e:El) (o:List Int) (h:sq e tS lA=.inl o):(e.c=0 ∧ e.k=true ∧ e.n=16) ∧ ((∃ x,e.s=[x] ∧ o=[0,-1] ∧ x.c=0 ∧ x.k=false ∧ x.n=6) ∨ ∃ x y,e.s=[x,y] ∧ o=[0,1] ∧ x.c=0 ∧ x.k=false ∧ x.n=6):=by
  obtain ⟨_,_,_,t1,t2,t3⟩:=F11.sq_ok h
  refine ⟨⟨t1,t2,t3⟩,?_⟩
  unfold sq at h
  rw [if_neg (by simp),if_neg (by simp [t1,t2,t3])] at h
  have A:=fun y => mt_eq ⟨0,false,6,false,false⟩ y rfl
  have B:=fun y => mt_any ⟨0,false,0,true,true⟩ y rfl
  rcases hs:e.s with _ | ⟨x,_ | ⟨y,_ | ⟨z,r⟩⟩⟩
  · rw [hs] at h
    simp [sqr] at h
  · rw [hs] at h
    by_cases a:F7.mt ⟨0,false,6,false,false⟩ x=true
    · simp [sqr,a] at h
      have q:=(A x).1 a
      exact .inl ⟨x,rfl,h.symm,q.1.symm,q.2.1.symm,q.2.2.symm⟩
    · simp [sqr,a] at h
  · rw [hs] at h
    by_cases a:F7.mt ⟨0,false,6,false,false⟩ x=true
    · simp [sqr,a,B] at h
      have q:=(A x).1 a
      exact .inr ⟨x,y,rfl,h.symm,q.1.symm,q.2.1.symm,q.2.2.symm⟩
    · simp [sqr,a] at h
  · rw [hs] at h
    by_cases a:F7.mt ⟨0,false,6,false,false⟩ x=true
    · simp [sqr,a,B] at h
    · simp [sqr,a] at h
theorem l16 (xs:List Int) (h:xs.length=16):∃ x0 x1 x2 x3 x4 x5 x6 x7 x8 x9 x10 x11 x12 x13 x14 x15,xs=[x0,x1,x2,x3,x4,x5,x6,x7,x8,x9,x10,x11,x12,x13,x14,x15]:=by
  match xs,h with
  | [x0,x1,x2,x3,x4,x5,x6,x7,x8,x9,x10,x11,x12,x13,x14,x15],_ => exact ⟨_,_,_,_,_,_,_,_,_,_,_,_,_,_,_,_,rfl⟩
abbrev lf (b:List Int):El:=.mk 0 false 6 false b (some b.length) true [] (some 0)
abbrev tp (s:List El) (n:Nat):El:=.mk 0 true 16 true [] (some 0) false s (some n)
theorem lf_core (x:El) (b:List Int) (hv:vld x.core) (h:x.c=0 ∧ x.k=false ∧ x.n=6) (hb:b=x.b):(lf b).core=x.core:=by
  rw [vld_eq] at hv
  have s0:=hv.2.2.1 h.2.1
  rw [El.core_eq,El.core_eq x,h.1,h.2.1,h.2.2,s0,hb]
  rfl
theorem lf_ok (b:List Int) (hb:isB b) (hl:b.length ≤ 9223372036854775807):(lf b).ok:=by
  rw [El.ok_eq]
  exact ⟨by simp [El.c],by simp [El.n],hb,hl,by simp [El.s],fun y hy => by cases hy⟩
theorem tp_ok (s:List El) (n:Nat) (h:∀ x ∈ s,x.ok) (hl:s.length ≤ 2):(tp s n).ok:=by
  rw [El.ok_eq]
  exact ⟨by simp [El.c],by simp [El.n],by simp [El.b,isB],by simp [El.b],by simp only [El.s]; omega,h⟩
theorem core_of (e:El) (hv:vld e.core) (ht:e.c=0 ∧ e.k=true ∧ e.n=16) (s:List El) (n:Nat) (h:El.cores s=El.cores e.s):(tp s n).core=e.core:=by
  rw [vld_eq] at hv
  have b0:=hv.2.1 ht.2.1
  rw [El.core_eq,El.core_eq e,ht.1,ht.2.1,ht.2.2,b0,← h]; rfl
end AP
