/- AlgorithmsSame, from two laid algorithms. No conditions. -/
import Derived.Test.YtbiildmljbcmeaaDoorA15
import Derived.Test.YtbiildmljbcmeaaDoorP5
import Derived.Test.YtbiildmljbcmeaaDoorF5
import Derived.Test.YtbiildmljbcmeaaDoorB38
import Derived.Test.YtbiildmljbcmeaaDoorTabETie
open Ab Go TabE
set_option linter.unusedVariables false
set_option linter.unusedSimpArgs false
namespace LA3
theorem tt {n:Nat} {a:AV} (sh:Shp Go.Proofs.Tryd.prog n 62 a.cells) (sa:a.scal = !aggTy Go.Proofs.Tryd.prog 62) (nt:∀ x,a ≠ .tup x):∃ (k:Int) (fp:Bool) (ps:List Int) (fb:Bool) (l:List Int) (un:Int),a=.agg (A9.ac k fp ps none fb l none un) ∧ 0 ≤ k ∧ k < 256 ∧ isB ps ∧ isB l ∧ 0 ≤ un ∧ un < 256:=by
  have sa:a.scal=false:=by rw [sa]; unfold aggTy; rw [Go.Proofs.Tryd.underlying62]; rfl
  obtain ⟨m,rfl,hl,hf⟩:=sh.strct Go.Proofs.Tryd.underlying62
  have c1:Go.Proofs.Tryd.prog.cellsOf 62=4:=by kernel_rfl
  have c2:Go.Proofs.Tryd.prog.cellsOf 26=1:=by kernel_rfl
  have c3:Go.Proofs.Tryd.prog.cellsOf 5=1:=by kernel_rfl
  rw [c1] at hl
  obtain ⟨cs,rfl⟩:∃ cs,a=.agg cs:=by
    cases a <;> first | exact ⟨_,rfl⟩ | (exfalso; simp [AV.scal] at sa; done) | exact absurd rfl (nt _)
  obtain ⟨x1,x2,x3,x4,rfl⟩:∃ x1 x2 x3 x4,cs=[x1,x2,x3,x4]:=by
    simp only [AV.cells] at hl
    rcases cs with _ | ⟨x1,_ | ⟨x2,_ | ⟨x3,_ | ⟨x4,_ | ⟨x5,r⟩⟩⟩⟩⟩ <;> simp at hl
    exact ⟨_,_,_,_,rfl⟩
  simp [AV.cells,c2,c3] at hf
  obtain ⟨h1,h2,h3,h4⟩:=hf
  obtain ⟨k,e1,k0,k1⟩:=h1.int Go.Proofs.Tryd.underlying5
  obtain ⟨fp,ps,e2,_,hp⟩:=h2.bytes Go.Proofs.Tryd.underlying26 Go.Proofs.Tryd.underlying5
  obtain ⟨fb,l,e3,_,hb⟩:=h3.bytes Go.Proofs.Tryd.underlying26 Go.Proofs.Tryd.underlying5
  obtain ⟨un,e4,u0,u1⟩:=h4.int Go.Proofs.Tryd.underlying5
  obtain rfl:x1=_:=by simpa using e1
  obtain rfl:x2=_:=by simpa using e2
  obtain rfl:x3=_:=by simpa using e3
  obtain rfl:x4=_:=by simpa using e4
  simp [IntKind.min,IntKind.max,IntKind.signed,IntKind.bits] at k0 k1 u0 u1
  exact ⟨k,fp,ps,fb,l,un,rfl,k0,by omega,hp,hb,u0,by omega⟩
theorem law {n0 n1:Nat} {a0 a1:AV} (h0:Shp Go.Proofs.Tryd.prog n0 62 a0.cells) (s0:a0.scal = !aggTy Go.Proofs.Tryd.prog 62) (t0:∀ x,a0 ≠ .tup x) (h1:Shp Go.Proofs.Tryd.prog n1 62 a1.cells) (s1:a1.scal = !aggTy Go.Proofs.Tryd.prog 62) (t1:∀ x,a1 ≠ .tup x) :
    ∃ N,Con E N 5 [a0,a1] (.bool true):=by
  obtain ⟨k,fp,ps,fb,l,un,rfl,k0,k1,hp,hb,u0,u1⟩:=tt h0 s0 t0
  obtain ⟨k',fp',ps',fb',l',un',rfl,k0',k1',hp',hb',u0',u1'⟩:=tt h1 s1 t1
  exact A15.law k k0 k1 fp ps none fb l none un hp hb u0 u1 k' k0' k1' fp' ps' none fb' l' none un' hp' hb' u0' u1'
end LA3
