/- What the laid package-level variables of this seat read as, for the evaluator. Own work, no conditions. -/
import Derived.Test.YtbiildmljbcmeaaDoorTabEe
import Derived.Test.YtbiildmljbcmeaaDoorB40e
import Derived.Test.YtbiildmljbcmeaaDoorRows
import Derived.KernelRfl
set_option maxRecDepth 100000
set_option linter.unusedSimpArgs false
namespace Go.Proofs.YtbiildmljbcmeaaDoor
open Go Ab
theorem G8.c29:Tryd.prog.cellsOf 25=3:=by kernel_rfl
theorem G8.c27:Tryd.prog.cellsOf 22=1:=by kernel_rfl
theorem G8.c4:Tryd.prog.cellsOf 4=1:=by kernel_rfl
theorem G8.c22:Tryd.prog.cellsOf 23=1:=by kernel_rfl
theorem G8.g0:Tryd.prog.globalNamed "vidimus/algorithms.sequence" = some 0:=by kernel_rfl
theorem G8.g1:Tryd.prog.globalNamed "vidimus/algorithms.oid" = some 1:=by kernel_rfl
theorem G8.t0:(Tryd.prog.globals[0]?).map (·.type)=some 25:=by kernel_rfl
theorem G8.t1:(Tryd.prog.globals[1]?).map (·.type)=some 25:=by kernel_rfl
theorem G8.int {H:Type} {enc:TypeId × Value → H} {P:Program} {w:World} {base:Nat} {sp:Nat → Bool} {held:Bool} {fuel:Nat} {t:TypeId} {k k':IntKind} {n:Int} {c:Value} {q}
    (ht:P.underlying t=some (.int k)) (h:DataW.trod enc P w base sp held fuel t [c]=some (.lit (.int k' n),q)):c=.int k' n:=by
  cases fuel with
  | zero => simp [DataW.trod] at h
  | succ fuel =>
    cases c <;> simp [DataW.trod,ht] at h
    rename_i k2 n2
    obtain ⟨⟨rfl,_⟩,⟨rfl,rfl⟩,_⟩:=h
    rfl
theorem G8.bool {H:Type} {enc:TypeId × Value → H} {P:Program} {w:World} {base:Nat} {sp:Nat → Bool} {held:Bool} {fuel:Nat} {t:TypeId} {b:Bool} {c:Value} {q}
    (ht:P.underlying t=some .bool) (h:DataW.trod enc P w base sp held fuel t [c]=some (.lit (.bool b),q)):c=.bool b:=by
  cases fuel with
  | zero => simp [DataW.trod] at h
  | succ fuel =>
    cases c <;> simp [DataW.trod,ht] at h
    obtain ⟨rfl,_⟩:=h
    rfl
theorem G8.tag {H:Type} {enc:TypeId × Value → H} {w:World} {base:Nat} {sp:Nat → Bool} {held:Bool} {fuel:Nat} {cs:List Value} {a c:Int} {b:Bool} {ka kc:IntKind} {p}
    (h:DataW.trod enc Tryd.prog w base sp held fuel 25 cs=some (.agg [.lit (.int ka a),.lit (.bool b),.lit (.int kc c)],p)):cs=[.int ka a,.bool b,.int kc c]:=by
  cases fuel with
  | zero => simp [DataW.trod] at h
  | succ fuel =>
    simp only [DataW.trod,Tryd.underlying25,G8.c29] at h
    split at h
    case isFalse => cases h
    rename_i hl
    obtain ⟨c0,c1,c2,rfl⟩:∃ c0 c1 c2,cs=[c0,c1,c2]:=by
      match cs,hl with
      | [a,b,c],_ => exact ⟨a,b,c,rfl⟩
    simp only [G8.c27,G8.c4,G8.c22,List.drop,List.take,Option.map_eq_some_iff,List.mapM_cons,List.mapM_nil,Option.bind_eq_bind,Option.bind_eq_some_iff,Option.pure_def,Option.some.injEq] at h
    obtain ⟨xs,⟨y0,h0,_,⟨y1,h1,_,⟨y2,h2,_,rfl,rfl⟩,rfl⟩,rfl⟩,hx⟩:=h
    obtain ⟨y0,z0⟩:=y0
    obtain ⟨y1,z1⟩:=y1
    obtain ⟨y2,z2⟩:=y2
    simp only [List.map_cons,List.map_nil,Prod.mk.injEq,DataW.agg.injEq,List.cons.injEq,and_true] at hx
    obtain ⟨⟨rfl,rfl,rfl⟩,_⟩:=hx
    rw [G8.int Tryd.underlying22 h0,G8.bool Tryd.underlying4 h1,G8.int Tryd.underlying23 h2]
theorem G8.rv {W:World} {g:Nat} {n:String} {a c:Int} {b:Bool} (hg:Tryd.prog.globalNamed n=some g) (h:W.var? Tryd.prog n=some #[.int .u8 a,.bool b,.int .u32 c]):RV (cx0 W) (.pel [.int .u8 a,.bool b,.int .u32 c]) (.pointer (some ⟨g,0,none⟩)):=by
  have hlt:g < W.heap.size:=by
    unfold World.var? at h
    rw [hg] at h
    simp only [Option.bind_some] at h
    cases e:W.heap[g]? with
    | none => rw [e] at h; cases h
    | some o => exact (Array.getElem?_eq_some_iff.1 e).1
  refine .pel _ [.int .u8 a,.bool b,.int .u32 c] g 0 (.cons _ _ _ _ (.int _ _) (.cons _ _ _ _ (.bool _) (.cons _ _ _ _ (.int _ _) .nil))) (by simp [AV.scal]) (by simp [AV.pure]) hlt ?_
  intro i cell hi
  have hc:=World.var?_cell hg h i
  rw [Nat.zero_add]
  match i,hi with
  | 0,hi => cases hi; exact hc
  | 1,hi => cases hi; exact hc
  | 2,hi => cases hi; exact hc
def G8.gl:Nat → Option (List AV)
  | 0 => some [.int .u8 0,.bool true,.int .u32 16]
  | 1 => some [.int .u8 0,.bool false,.int .u32 6]
  | _ => none
theorem G8.gok {W:World} (hL:laidMet Tryd.prog [("vidimus/algorithms.sequence",Rows.laid_vidimus_algorithms_sequence),("vidimus/algorithms.oid",Rows.laid_vidimus_algorithms_oid)] W):GOK TabE.E (cx0 W):=by
  obtain ⟨ps,⟨g,t,cs,fuel,p,q,hg,ht,hvar,hd,⟨g1,t1,cs1,fuel1,p1,q1,hg1,ht1,hvar1,hd1,_,_⟩,_⟩,_⟩:=hL
  obtain rfl:=Option.some.inj (G8.g0.symm.trans hg)
  obtain rfl:=Option.some.inj (G8.g1.symm.trans hg1)
  obtain rfl:=Option.some.inj (G8.t0.symm.trans ht)
  obtain rfl:=Option.some.inj (G8.t1.symm.trans ht1)
  have e0:=G8.tag hd
  have e1:=G8.tag hd1
  obtain ⟨cs⟩:=cs
  obtain ⟨cs1⟩:=cs1
  dsimp only at e0 e1
  subst e0 e1
  intro i x hx
  have hx:G8.gl i=some x:=hx
  unfold G8.gl at hx
  split at hx
  · cases hx; exact G8.rv G8.g0 hvar
  · cases hx; exact G8.rv G8.g1 hvar1
  · cases hx
#print axioms G8.gok
end Go.Proofs.YtbiildmljbcmeaaDoor
