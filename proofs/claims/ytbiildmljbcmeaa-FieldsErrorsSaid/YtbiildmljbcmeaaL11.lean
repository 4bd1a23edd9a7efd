/- Own work, no conditions. -/
import Derived.Test.YtbiildmljbcmeaaP5
import Derived.Test.YtbiildmljbcmeaaF4
import Derived.Test.YtbiildmljbcmeaaB38
import Derived.Test.YtbiildmljbcmeaaTabETie
import Derived.Test.YtbiildmljbcmeaaE27
import Derived.Test.YtbiildmljbcmeaaF67
set_option maxRecDepth 20000
set_option linter.unusedSimpArgs false
set_option linter.unusedVariables false
set_option maxHeartbeats 16000000
section
open Ab Go TabE
namespace EV
theorem el_list (m:Nat) (ih:∀ a:AV,a.scal=false → Shp Go.Proofs.Try.prog m 30 a.cells → ∃ e:El,a=e.av ∧ e.ok ∧ E31.Nn e):∀ xs:List AV,(∀ x ∈ xs,Shp Go.Proofs.Try.prog m 30 x.cells ∧ x.scal=false) → ∃ l:List El,xs=El.avs l ∧ (∀ e ∈ l,e.ok) ∧ ∀ e ∈ l,E31.Nn e
  | [],_ => ⟨[],rfl,(fun e h => by cases h),fun e h => by cases h⟩
  | x :: r,h => by
    obtain ⟨l,rfl,hl,hln⟩:=el_list m ih r fun y hy => h y (List.mem_cons_of_mem _ hy)
    obtain ⟨h1,h2⟩:=h x (List.mem_cons_self ..)
    obtain ⟨e,rfl,he,hen⟩:=ih x h2 h1
    exact ⟨e :: l,by rw [El.avs],fun y hy => (List.mem_cons.1 hy).elim (fun q => q ▸ he) (hl y),fun y hy => (List.mem_cons.1 hy).elim (fun q => q ▸ hen) (hln y)⟩
theorem el:∀ (n:Nat) (a:AV),a.scal=false → Shp Go.Proofs.Try.prog n 30 a.cells → ∃ e:El,a=e.av ∧ e.ok ∧ E31.Nn e:=by
  intro n
  induction n using Nat.strongRecOn with
  | ind n IH =>
    intro a sa sh
    obtain ⟨m,rfl,hl,hf⟩:=sh.strct Go.Proofs.Try.underlying30
    have c5:Go.Proofs.Try.prog.cellsOf 30=5:=by kernel_rfl
    have c3:Go.Proofs.Try.prog.cellsOf 27=3:=by kernel_rfl
    have cb:Go.Proofs.Try.prog.cellsOf 22=1:=by kernel_rfl
    have ce:Go.Proofs.Try.prog.cellsOf 28=1:=by kernel_rfl
    have cc:Go.Proofs.Try.prog.cellsOf 24=1:=by kernel_rfl
    have co:Go.Proofs.Try.prog.cellsOf 4=1:=by kernel_rfl
    have cu:Go.Proofs.Try.prog.cellsOf 25=1:=by kernel_rfl
    rw [c5] at hl
    obtain ⟨cs,rfl⟩:∃ cs,a=.agg cs:=by
      cases a <;> first | exact ⟨_,rfl⟩ | (exfalso; simp [AV.scal] at sa; done) | (exfalso; simp [AV.cells] at hl; done)
    obtain ⟨x1,x2,x3,x4,x5,rfl⟩:∃ x1 x2 x3 x4 x5,cs=[x1,x2,x3,x4,x5]:=by
      simp only [AV.cells] at hl
      rcases cs with _ | ⟨x1,_ | ⟨x2,_ | ⟨x3,_ | ⟨x4,_ | ⟨x5,_ | ⟨x6,r⟩⟩⟩⟩⟩⟩ <;> simp at hl
      exact ⟨_,_,_,_,_,rfl⟩
    simp [AV.cells,c3,cb,ce] at hf
    obtain ⟨hf1,hf2,hf3⟩:=hf
    obtain ⟨q,rfl,_,ht⟩:=hf1.strct Go.Proofs.Try.underlying27
    simp [cc,co,cu] at ht
    obtain ⟨ht1,ht2,ht3⟩:=ht
    obtain ⟨c,e1,c0,c1⟩:=ht1.int Go.Proofs.Try.underlying24
    obtain ⟨k,e2⟩:=ht2.bool Go.Proofs.Try.underlying4
    obtain ⟨n,e3,n0,n1⟩:=ht3.int Go.Proofs.Try.underlying25
    obtain ⟨fb,b,e4,lb,hb⟩:=hf2.bytes Go.Proofs.Try.underlying22 Go.Proofs.Try.underlying5
    obtain ⟨m',fs,xs,e6,e5,lx,hx⟩:=hf3.slice Go.Proofs.Try.underlying28
    obtain ⟨s,rfl,hs,hsn⟩:=el_list m' (fun a ha hq => IH m' (by omega) a ha hq) xs fun x hx' => ⟨(hx x hx').1,by rw [(hx x hx').2]; unfold aggTy; rw [Go.Proofs.Try.underlying30]; rfl⟩
    rw [e4] at hf2
    rw [e5] at hf3
    have n4:=hf2.nil Go.Proofs.Try.underlying22
    have n5:=hf3.nil Go.Proofs.Try.underlying28
    obtain rfl:x1=_:=by simpa using e1
    obtain rfl:x2=_:=by simpa using e2
    obtain rfl:x3=_:=by simpa using e3
    obtain rfl:x4=_:=by simpa using e4
    obtain rfl:x5=_:=by simpa using e5
    have ml:maxLen=9223372036854775807:=by decide +kernel
    rw [El.avs_len,ml] at lx
    rw [ml] at lb
    simp [IntKind.min,IntKind.max,IntKind.signed,IntKind.bits] at c0 c1 n0 n1
    exact ⟨.mk c k n fb b none fs s none,by rw [El.av],by rw [El.ok_eq]; exact ⟨⟨by simpa [El.c] using c0,by simp [El.c]; omega⟩,⟨by simpa [El.n] using n0,by simp [El.n]; omega⟩,hb,lb,lx,hs⟩,.mk _ (fun q => by have:=n4 q; cases b with | nil => rfl | cons x r => simp [bs] at this) (fun q => by have:=n5 q; cases s with | nil => rfl | cons x r => simp [El.avs] at this) hsn⟩
end EV
end
section
open Ab Go TabE F6
namespace L7
theorem two {n:Nat} {a:AV} (sh:Shp Go.Proofs.Try.prog n 82 a.cells) (sa:a.scal = !aggTy Go.Proofs.Try.prog 82) (nt:∀ x,a ≠ .tup x):∃ x y:Int,a=.agg [.int .i64 x,.int .i64 y]:=by
  have sa:a.scal=false:=by rw [sa]; unfold aggTy; rw [Go.Proofs.Try.underlying82]; rfl
  obtain ⟨m,rfl,hl,hf⟩:=sh.arr Go.Proofs.Try.underlying82
  have c1:Go.Proofs.Try.prog.cellsOf 82=2:=by kernel_rfl
  have c2:Go.Proofs.Try.prog.cellsOf 3=1:=by kernel_rfl
  rw [c1] at hl
  obtain ⟨cs,rfl⟩:∃ cs,a=.agg cs:=by
    cases a <;> first | exact ⟨_,rfl⟩ | (exfalso; simp [AV.scal] at sa; done) | exact absurd rfl (nt _)
  obtain ⟨x1,x2,rfl⟩:∃ x1 x2,cs=[x1,x2]:=by
    simp only [AV.cells] at hl
    rcases cs with _ | ⟨x1,_ | ⟨x2,_ | ⟨x3,r⟩⟩⟩ <;> simp at hl
    exact ⟨_,_,rfl⟩
  have h0:=hf 0 (by omega)
  have h1:=hf 1 (by omega)
  simp [AV.cells,c2] at h0 h1
  obtain ⟨a,e1,a0,a1⟩:=h0.int Go.Proofs.Try.underlying3
  obtain ⟨b,e2,b0,b1⟩:=h1.int Go.Proofs.Try.underlying3
  obtain rfl:x1=_:=by simpa using e1
  obtain rfl:x2=_:=by simpa using e2
  exact ⟨a,b,rfl⟩
end L7
end
section
open Ab Go TabE
namespace L11
theorem law {n0 n1 n2:Nat} {a0 a1 a2:AV} (h0:Shp Go.Proofs.Try.prog n0 30 a0.cells) (s0:a0.scal = !aggTy Go.Proofs.Try.prog 30) (t0:∀ x,a0 ≠ .tup x) (h1:Shp Go.Proofs.Try.prog n1 47 a1.cells) (s1:a1.scal = !aggTy Go.Proofs.Try.prog 47) (t1:∀ x,a1 ≠ .tup x) (h2:Shp Go.Proofs.Try.prog n2 82 a2.cells) (s2:a2.scal = !aggTy Go.Proofs.Try.prog 82) (t2:∀ x,a2 ≠ .tup x) :
    ∃ N,Con E N 16 [a0,a1,a2] (.bool true):=by
  obtain ⟨e,rfl,he,hn⟩:=EV.el n0 a0 (by rw [s0]; unfold aggTy; rw [Go.Proofs.Try.underlying30]; rfl) h0
  obtain ⟨f,ps,e1,_,_⟩:=h1.ints Go.Proofs.Try.underlying47 Go.Proofs.Try.underlying3
  obtain rfl:=cells_one e1 (by rw [s1]; unfold aggTy; rw [Go.Proofs.Try.underlying47]; rfl)
  obtain ⟨x,y,rfl⟩:=L7.two h2 s2 t2
  exact F67.law e he hn f ps none x y
end L11
end
