/- Own work, no conditions. -/
import Derived.Test.YtbiildmljbcmeaaDoorSq
import Derived.Test.YtbiildmljbcmeaaDoorF2
import Derived.Test.YtbiildmljbcmeaaDoorB38e
import Derived.Test.YtbiildmljbcmeaaDoorTabETiee
import Derived.Test.YtbiildmljbcmeaaDoorA17
set_option maxRecDepth 20000
set_option linter.unusedSimpArgs false
set_option linter.unusedVariables false
set_option maxHeartbeats 16000000
section
open Ab Go TabE
namespace EV
theorem el_list (m:Nat) (ih:∀ a:AV,a.scal=false → Shp Go.Proofs.Tryd.prog m 29 a.cells → ∃ e:El,a=e.av ∧ e.ok ∧ E31.Nn e):∀ xs:List AV,(∀ x ∈ xs,Shp Go.Proofs.Tryd.prog m 29 x.cells ∧ x.scal=false) → ∃ l:List El,xs=El.avs l ∧ (∀ e ∈ l,e.ok) ∧ ∀ e ∈ l,E31.Nn e
  | [],_ => ⟨[],rfl,(fun e h => by cases h),fun e h => by cases h⟩
  | x :: r,h => by
    obtain ⟨l,rfl,hl,hln⟩:=el_list m ih r fun y hy => h y (List.mem_cons_of_mem _ hy)
    obtain ⟨h1,h2⟩:=h x (List.mem_cons_self ..)
    obtain ⟨e,rfl,he,hen⟩:=ih x h2 h1
    exact ⟨e :: l,by rw [El.avs],fun y hy => (List.mem_cons.1 hy).elim (fun q => q ▸ he) (hl y),fun y hy => (List.mem_cons.1 hy).elim (fun q => q ▸ hen) (hln y)⟩
theorem el:∀ (n:Nat) (a:AV),a.scal=false → Shp Go.Proofs.Tryd.prog n 29 a.cells → ∃ e:El,a=e.av ∧ e.ok ∧ E31.Nn e:=by
  intro n
  induction n using Nat.strongRecOn with
  | ind n IH =>
    intro a sa sh
    obtain ⟨m,rfl,hl,hf⟩:=sh.strct Go.Proofs.Tryd.underlying29
    have c5:Go.Proofs.Tryd.prog.cellsOf 29=5:=by kernel_rfl
    have c3:Go.Proofs.Tryd.prog.cellsOf 25=3:=by kernel_rfl
    have cb:Go.Proofs.Tryd.prog.cellsOf 26=1:=by kernel_rfl
    have ce:Go.Proofs.Tryd.prog.cellsOf 27=1:=by kernel_rfl
    have cc:Go.Proofs.Tryd.prog.cellsOf 22=1:=by kernel_rfl
    have co:Go.Proofs.Tryd.prog.cellsOf 4=1:=by kernel_rfl
    have cu:Go.Proofs.Tryd.prog.cellsOf 23=1:=by kernel_rfl
    rw [c5] at hl
    obtain ⟨cs,rfl⟩:∃ cs,a=.agg cs:=by
      cases a <;> first | exact ⟨_,rfl⟩ | (exfalso; simp [AV.scal] at sa; done) | (exfalso; simp [AV.cells] at hl; done)
    obtain ⟨x1,x2,x3,x4,x5,rfl⟩:∃ x1 x2 x3 x4 x5,cs=[x1,x2,x3,x4,x5]:=by
      simp only [AV.cells] at hl
      rcases cs with _ | ⟨x1,_ | ⟨x2,_ | ⟨x3,_ | ⟨x4,_ | ⟨x5,_ | ⟨x6,r⟩⟩⟩⟩⟩⟩ <;> simp at hl
      exact ⟨_,_,_,_,_,rfl⟩
    simp [AV.cells,c3,cb,ce] at hf
    obtain ⟨hf1,hf2,hf3⟩:=hf
    obtain ⟨q,rfl,_,ht⟩:=hf1.strct Go.Proofs.Tryd.underlying25
    simp [cc,co,cu] at ht
    obtain ⟨ht1,ht2,ht3⟩:=ht
    obtain ⟨c,e1,c0,c1⟩:=ht1.int Go.Proofs.Tryd.underlying22
    obtain ⟨k,e2⟩:=ht2.bool Go.Proofs.Tryd.underlying4
    obtain ⟨n,e3,n0,n1⟩:=ht3.int Go.Proofs.Tryd.underlying23
    obtain ⟨fb,b,e4,lb,hb⟩:=hf2.bytes Go.Proofs.Tryd.underlying26 Go.Proofs.Tryd.underlying5
    obtain ⟨m',fs,xs,e6,e5,lx,hx⟩:=hf3.slice Go.Proofs.Tryd.underlying27
    obtain ⟨s,rfl,hs,hsn⟩:=el_list m' (fun a ha hq => IH m' (by omega) a ha hq) xs fun x hx' => ⟨(hx x hx').1,by rw [(hx x hx').2]; unfold aggTy; rw [Go.Proofs.Tryd.underlying29]; rfl⟩
    rw [e4] at hf2
    rw [e5] at hf3
    have n4:=hf2.nil Go.Proofs.Tryd.underlying26
    have n5:=hf3.nil Go.Proofs.Tryd.underlying27
    obtain rfl:x1=_:=by simpa using e1
    obtain rfl:x2=_:=by simpa using e2
    obtain rfl:x3=_:=by simpa using e3
    obtain rfl:x4=_:=by simpa using e4
    obtain rfl:x5=_:=by simpa using e5
    have ml:maxLen=9223372036854775807:=by decide +kernel
    rw [El.avs_len,ml] at lx
    rw [ml] at lb
    simp [IntKind.min,IntKind.max,IntKind.signed,IntKind.bits] at c0 c1 n0 n1
    exact ⟨.mk c k n fb b none fs s none,by rw [El.av],by rw [El.ok_eq]; exact ⟨⟨by simpa [El.c] using c0,by simp [El.c]; omega⟩,⟨by simpa [El.n] using n0,by simp [El.n]; omega⟩,hb,lb,lx,hs⟩,.mk _ (fun q => by have:=n4 q; cases b with | nil => rfl | cons x r => simp [bs] at this) (fun q => by have:=n5 q; cases s with | nil => rfl | cons x r => simp [El.avs] at this) hsn⟩
end EV
end
section
open Ab Go TabE A2
namespace LA4
theorem l23 (cs:List AV) (h:cs.length=23):∃ c0 c1 c2 c3 c4 c5 c6 c7 c8 c9 c10 c11 c12 c13 c14 c15 c16 c17 c18 c19 c20 c21 c22,cs=[c0,c1,c2,c3,c4,c5,c6,c7,c8,c9,c10,c11,c12,c13,c14,c15,c16,c17,c18,c19,c20,c21,c22]:=by
  match cs,h with
  | [c0,c1,c2,c3,c4,c5,c6,c7,c8,c9,c10,c11,c12,c13,c14,c15,c16,c17,c18,c19,c20,c21,c22],_ => exact ⟨_,_,_,_,_,_,_,_,_,_,_,_,_,_,_,_,_,_,_,_,_,_,_,rfl⟩
theorem alg {n:Nat} {a:AV} (sh:Shp Go.Proofs.Tryd.prog n 37 a.cells) (sa:a.scal = !aggTy Go.Proofs.Tryd.prog 37) (nt:∀ x,a ≠ .tup x):∃ (n:Int) (x0 x1 x2 x3 x4 x5 x6 x7 x8 x9 x10 x11 x12 x13 x14 x15:Int) (b:Bool) (p:El),a=ag n x0 x1 x2 x3 x4 x5 x6 x7 x8 x9 x10 x11 x12 x13 x14 x15 b p ∧ (0 ≤ n ∧ n < 256) ∧ (∀ x ∈ [x0,x1,x2,x3,x4,x5,x6,x7,x8,x9,x10,x11,x12,x13,x14,x15],0 ≤ x ∧ x < 4294967296) ∧ p.ok ∧ E31.Nn p:=by
  have sa:a.scal=false:=by rw [sa]; unfold aggTy; rw [Go.Proofs.Tryd.underlying37]; rfl
  obtain ⟨m,rfl,hl,hf⟩:=sh.strct Go.Proofs.Tryd.underlying37
  have k37:Go.Proofs.Tryd.prog.cellsOf 37=23:=by kernel_rfl
  have k35:Go.Proofs.Tryd.prog.cellsOf 35=17:=by kernel_rfl
  have k33:Go.Proofs.Tryd.prog.cellsOf 33=16:=by kernel_rfl
  have k4:Go.Proofs.Tryd.prog.cellsOf 4=1:=by kernel_rfl
  have k5:Go.Proofs.Tryd.prog.cellsOf 5=1:=by kernel_rfl
  have k23:Go.Proofs.Tryd.prog.cellsOf 23=1:=by kernel_rfl
  have k29:Go.Proofs.Tryd.prog.cellsOf 29=5:=by kernel_rfl
  rw [k37] at hl
  obtain ⟨cs,rfl⟩:∃ cs,a=.agg cs:=by
    cases a <;> first | exact ⟨_,rfl⟩ | (exfalso; simp [AV.scal] at sa; done) | exact absurd rfl (nt _)
  obtain ⟨c0,c1,c2,c3,c4,c5,c6,c7,c8,c9,c10,c11,c12,c13,c14,c15,c16,c17,c18,c19,c20,c21,c22,rfl⟩:=l23 cs hl
  simp [AV.cells,k35,k4,k29] at hf
  obtain ⟨h1,h2,h3⟩:=hf
  obtain ⟨q,rfl,_,ho⟩:=h1.strct Go.Proofs.Tryd.underlying35
  simp [k5,k33] at ho
  obtain ⟨o1,o2⟩:=ho
  obtain ⟨r,rfl,_,ha⟩:=o2.arr Go.Proofs.Tryd.underlying33
  obtain ⟨n,e0,n0,n1⟩:=o1.int Go.Proofs.Tryd.underlying5
  obtain ⟨b,e17⟩:=h2.bool Go.Proofs.Tryd.underlying4
  obtain ⟨p,e18,hp,hn⟩:=EV.el _ (.agg [c18,c19,c20,c21,c22]) rfl h3
  have a0:=ha 0 (by omega)
  simp [k23] at a0
  obtain ⟨x0,f0,p0,q0⟩:=a0.int Go.Proofs.Tryd.underlying23
  have a1:=ha 1 (by omega)
  simp [k23] at a1
  obtain ⟨x1,f1,p1,q1⟩:=a1.int Go.Proofs.Tryd.underlying23
  have a2:=ha 2 (by omega)
  simp [k23] at a2
  obtain ⟨x2,f2,p2,q2⟩:=a2.int Go.Proofs.Tryd.underlying23
  have a3:=ha 3 (by omega)
  simp [k23] at a3
  obtain ⟨x3,f3,p3,q3⟩:=a3.int Go.Proofs.Tryd.underlying23
  have a4:=ha 4 (by omega)
  simp [k23] at a4
  obtain ⟨x4,f4,p4,q4⟩:=a4.int Go.Proofs.Tryd.underlying23
  have a5:=ha 5 (by omega)
  simp [k23] at a5
  obtain ⟨x5,f5,p5,q5⟩:=a5.int Go.Proofs.Tryd.underlying23
  have a6:=ha 6 (by omega)
  simp [k23] at a6
  obtain ⟨x6,f6,p6,q6⟩:=a6.int Go.Proofs.Tryd.underlying23
  have a7:=ha 7 (by omega)
  simp [k23] at a7
  obtain ⟨x7,f7,p7,q7⟩:=a7.int Go.Proofs.Tryd.underlying23
  have a8:=ha 8 (by omega)
  simp [k23] at a8
  obtain ⟨x8,f8,p8,q8⟩:=a8.int Go.Proofs.Tryd.underlying23
  have a9:=ha 9 (by omega)
  simp [k23] at a9
  obtain ⟨x9,f9,p9,q9⟩:=a9.int Go.Proofs.Tryd.underlying23
  have a10:=ha 10 (by omega)
  simp [k23] at a10
  obtain ⟨x10,f10,p10,q10⟩:=a10.int Go.Proofs.Tryd.underlying23
  have a11:=ha 11 (by omega)
  simp [k23] at a11
  obtain ⟨x11,f11,p11,q11⟩:=a11.int Go.Proofs.Tryd.underlying23
  have a12:=ha 12 (by omega)
  simp [k23] at a12
  obtain ⟨x12,f12,p12,q12⟩:=a12.int Go.Proofs.Tryd.underlying23
  have a13:=ha 13 (by omega)
  simp [k23] at a13
  obtain ⟨x13,f13,p13,q13⟩:=a13.int Go.Proofs.Tryd.underlying23
  have a14:=ha 14 (by omega)
  simp [k23] at a14
  obtain ⟨x14,f14,p14,q14⟩:=a14.int Go.Proofs.Tryd.underlying23
  have a15:=ha 15 (by omega)
  simp [k23] at a15
  obtain ⟨x15,f15,p15,q15⟩:=a15.int Go.Proofs.Tryd.underlying23
  obtain rfl:c0=_:=by simpa using e0
  obtain rfl:c17=_:=by simpa using e17
  obtain rfl:c1=_:=by simpa using f0
  obtain rfl:c2=_:=by simpa using f1
  obtain rfl:c3=_:=by simpa using f2
  obtain rfl:c4=_:=by simpa using f3
  obtain rfl:c5=_:=by simpa using f4
  obtain rfl:c6=_:=by simpa using f5
  obtain rfl:c7=_:=by simpa using f6
  obtain rfl:c8=_:=by simpa using f7
  obtain rfl:c9=_:=by simpa using f8
  obtain rfl:c10=_:=by simpa using f9
  obtain rfl:c11=_:=by simpa using f10
  obtain rfl:c12=_:=by simpa using f11
  obtain rfl:c13=_:=by simpa using f12
  obtain rfl:c14=_:=by simpa using f13
  obtain rfl:c15=_:=by simpa using f14
  obtain rfl:c16=_:=by simpa using f15
  rw [El.av_eq] at e18
  simp only [AV.agg.injEq,List.cons.injEq,and_true] at e18
  obtain ⟨rfl,rfl,rfl,rfl,rfl⟩:=e18
  simp [IntKind.min,IntKind.max,IntKind.signed,IntKind.bits] at p0 q0 p1 q1 p2 q2 p3 q3 p4 q4 p5 q5 p6 q6 p7 q7 p8 q8 p9 q9 p10 q10 p11 q11 p12 q12 p13 q13 p14 q14 p15 q15 n0 n1
  refine ⟨n,x0,x1,x2,x3,x4,x5,x6,x7,x8,x9,x10,x11,x12,x13,x14,x15,b,p,rfl,⟨n0,by omega⟩,fun x hx => ?_,hp,hn⟩
  simp only [List.mem_cons,List.not_mem_nil,or_false] at hx
  rcases hx with rfl | rfl | rfl | rfl | rfl | rfl | rfl | rfl | rfl | rfl | rfl | rfl | rfl | rfl | rfl | rfl <;> omega
theorem law {n0 n1 n2:Nat} {a0 a1 a2:AV} (h0:Shp Go.Proofs.Tryd.prog n0 37 a0.cells) (s0:a0.scal = !aggTy Go.Proofs.Tryd.prog 37) (t0:∀ x,a0 ≠ .tup x) (h1:Shp Go.Proofs.Tryd.prog n1 26 a1.cells) (s1:a1.scal = !aggTy Go.Proofs.Tryd.prog 26) (t1:∀ x,a1 ≠ .tup x) (h2:Shp Go.Proofs.Tryd.prog n2 3 a2.cells) (s2:a2.scal = !aggTy Go.Proofs.Tryd.prog 3) (t2:∀ x,a2 ≠ .tup x) :
    ∃ N,Con E N 4 [a0,a1,a2] (.bool true):=by
  obtain ⟨n,x0,x1,x2,x3,x4,x5,x6,x7,x8,x9,x10,x11,x12,x13,x14,x15,b,p,rfl,hn,hx,hp,nn⟩:=alg h0 s0 t0
  obtain ⟨f,l,e1,_,hb⟩:=h1.bytes Go.Proofs.Tryd.underlying26 Go.Proofs.Tryd.underlying5
  obtain rfl:=cells_one e1 (by rw [s1]; unfold aggTy; rw [Go.Proofs.Tryd.underlying26]; rfl)
  obtain ⟨m,e2,_,_⟩:=h2.int Go.Proofs.Tryd.underlying3
  obtain rfl:=cells_one e2 (by rw [s2]; unfold aggTy; rw [Go.Proofs.Tryd.underlying3]; rfl)
  exact A17.law n x0 x1 x2 x3 x4 x5 x6 x7 x8 x9 x10 x11 x12 x13 x14 x15 b p f l none m hn hx hp nn hb
end LA4
end
