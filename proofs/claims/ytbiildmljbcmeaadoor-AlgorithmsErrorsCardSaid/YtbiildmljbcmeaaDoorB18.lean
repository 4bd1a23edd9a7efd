/- The evaluator: own work, no conditions. -/
import Derived.Test.YtbiildmljbcmeaaDoorB2
import Derived.Laws.IdiomCopy
import Derived.Laws.BytesArg
/- What the evaluator's values say of memory. Own work, no conditions. -/
set_option linter.unusedVariables false
namespace Ab
open Go
structure Cx where
  w:World
  Rd:Nat → Prop
  m:Key → Nat × Nat
  h:Heap
def Cx.mu (c:Cx) (k:Key):Nat:=(c.m k).1
def Cx.Vk (c:Cx) (k:Key):Prop:=∃ o,lookK c.h k=some o
def Cx.Mut (c:Cx) (b:Nat):Prop:=∃ k o,lookK c.h k=some o ∧ o.live=true ∧ o.mt=true ∧ c.mu k=b
mutual
inductive RV (c:Cx):AV → Value → Prop
  | int (k n):RV c (.int k n) (.int k n)
  | bool (b):RV c (.bool b) (.bool b)
  | str (l s):(s.data.toList.map fun b => (b.toNat:Int))=l → RV c (.str l) (.string s)
  | agg (cs vs):RVs c cs vs → (∀ x ∈ cs,x.scal=true) → RV c (.agg cs) (.agg ⟨vs⟩)
  | tup (xs vs):RVs c xs vs → RV c (.tup xs) (.tuple ⟨vs⟩)
  | slE (f a cap cap'):(a=none ↔ f=true) → (f=true → cap'=0) → (∀ k,cap=some k → cap'=k) → RV c (.sl f [] cap) (.slice a 0 cap')
  | slC (xs vs b off esz cap cap'):xs ≠ [] → RVs c xs vs → (∀ v ∈ vs,v.cells.size=esz) → (∀ x ∈ xs,x.pure=true) → c.Rd b →
      (∀ i cell,(vs.flatMap (·.cells.toList))[i]? = some cell → c.w.cell? ⟨b,off + i,none⟩=some cell) → xs.length ≤ cap' → (∀ k,cap=some k → cap'=k) →
      RV c (.sl false xs cap) (.slice (some ⟨b,off,none⟩) xs.length cap')
  | ref (k off len cap cap'):c.Vk k → len ≤ cap' → (∀ q,cap=some q → cap'=q) → (cap=none → off=0 → cap'=(c.m k).2) → RV c (.ref k off len cap) (.slice (some ⟨c.mu k,off,none⟩) len cap')
  | ptr (k off):c.Vk k → RV c (.ptr k off) (.pointer (some ⟨c.mu k,off,none⟩))
  | pel (cs vs b off):RVs c cs vs → (∀ x ∈ cs,x.scal=true) → (∀ x ∈ cs,x.pure=true) → c.Rd b →
      (∀ i cell,vs[i]? = some cell → c.w.cell? ⟨b,off + i,none⟩=some cell) → RV c (.pel cs) (.pointer (some ⟨b,off,none⟩))
  | nilp:RV c .nilp (.pointer none)
  | fn (f a b va vb):RVs c a va → RVs c b vb → RV c (.fn f a b) (.func (.func f) ⟨va⟩ ⟨vb⟩)
  | nilf:RV c .nilf .nilFunc
  | iface (t x v):RV c x v → RV c (.iface t x) (.iface t v)
  | nili:RV c .nili .nilIface
inductive RVs (c:Cx):List AV → List Value → Prop
  | nil:RVs c [] []
  | cons (x v xs vs):RV c x v → RVs c xs vs → RVs c (x :: xs) (v :: vs)
end
namespace AV
mutual
theorem keys_pure:∀ (x:AV),x.pure=true → x.keys=[]
  | .int ..,_ => rfl
  | .bool _,_ => rfl
  | .str _,_ => rfl
  | .agg cs,h => by simpa [keys] using keysL_pure cs (by simpa [pure] using h)
  | .tup cs,h => by simpa [keys] using keysL_pure cs (by simpa [pure] using h)
  | .sl ..,_ => rfl
  | .ref ..,h => by simp [pure] at h
  | .ptr ..,h => by simp [pure] at h
  | .pel _,_ => rfl
  | .nilp,_ => rfl
  | .fn _ a b,h => by
    simp only [pure,Bool.and_eq_true] at h
    simp [keys,keysL_pure a h.1,keysL_pure b h.2]
  | .nilf,_ => rfl
  | .iface _ v,h => by simpa [keys] using keys_pure v (by simpa [pure] using h)
  | .nili,_ => rfl
theorem keysL_pure:∀ (xs:List AV),pureL xs=true → keysL xs=[]
  | [],_ => rfl
  | x :: xs,h => by
    simp only [pureL,Bool.and_eq_true] at h
    simp [keysL,keys_pure x h.1,keysL_pure xs h.2]
end
theorem pureL_all:∀ (xs:List AV),pureL xs=true ↔ ∀ x ∈ xs,x.pure=true
  | [] => by simp [pureL]
  | x :: xs => by simp [pureL,pureL_all xs]
end AV
mutual
theorem RV.mono {c c':Cx} (hR:∀ b,c.Rd b → c'.Rd b ∧ c'.w.heap[b]? = c.w.heap[b]?):∀ {x v},RV c x v → (∀ k ∈ x.keys,c.Vk k → c'.Vk k ∧ c'.m k=c.m k) → RV c' x v
  | _,_,.int k n,_ => .int k n
  | _,_,.bool b,_ => .bool b
  | _,_,.str l s h,_ => .str l s h
  | _,_,.agg cs vs h hs,hk => .agg cs vs (RVs.mono hR h hk) hs
  | _,_,.tup cs vs h,hk => .tup cs vs (RVs.mono hR h hk)
  | _,_,.slE f a cap cap' h1 h2 h3,_ => .slE f a cap cap' h1 h2 h3
  | _,_,.slC xs vs b off esz cap cap' hne h hv hp hb hc hl hcap,_ =>
    .slC xs vs b off esz cap cap' hne (RVs.mono hR h (by rw [AV.keysL_pure xs ((AV.pureL_all xs).2 hp)]; simp)) hv hp (hR b hb).1
      (fun i cell hi => by have:=hc i cell hi; rw [← this]; exact World.cell?_of_block (hR b hb).2) hl hcap
  | _,_,.ref k off len cap cap' h1 h2 h3 h4,hk => by
    have:=hk k (by simp [AV.keys]) h1
    rw [show c.mu k=c'.mu k from (congrArg Prod.fst this.2).symm]
    exact .ref k off len cap cap' this.1 h2 h3 (by rw [this.2]; exact h4)
  | _,_,.ptr k off h1,hk => by
    have:=hk k (by simp [AV.keys]) h1
    rw [show c.mu k=c'.mu k from (congrArg Prod.fst this.2).symm]
    exact .ptr k off this.1
  | _,_,.pel cs vs b off h hs hp hb hc,_ =>
    .pel cs vs b off (RVs.mono hR h (by rw [AV.keysL_pure cs ((AV.pureL_all cs).2 hp)]; simp)) hs hp (hR b hb).1
      (fun i cell hi => by have:=hc i cell hi; rw [← this]; exact World.cell?_of_block (hR b hb).2)
  | _,_,.nilp,_ => .nilp
  | _,_,.fn f a b va vb h1 h2,hk => .fn f a b va vb (RVs.mono hR h1 fun k hm => hk k (by simp [AV.keys,hm])) (RVs.mono hR h2 fun k hm => hk k (by simp [AV.keys,hm]))
  | _,_,.nilf,_ => .nilf
  | _,_,.iface t x v h,hk => .iface t x v (RV.mono hR h hk)
  | _,_,.nili,_ => .nili
theorem RVs.mono {c c':Cx} (hR:∀ b,c.Rd b → c'.Rd b ∧ c'.w.heap[b]? = c.w.heap[b]?):∀ {xs vs},RVs c xs vs → (∀ k ∈ AV.keysL xs,c.Vk k → c'.Vk k ∧ c'.m k=c.m k) → RVs c' xs vs
  | _,_,.nil,_ => .nil
  | _,_,.cons x v xs vs h1 h2,hk => .cons x v xs vs (RV.mono hR h1 fun k hm => hk k (by simp [AV.keysL,hm])) (RVs.mono hR h2 fun k hm => hk k (by simp [AV.keysL,hm]))
end
theorem RVs.length {c:Cx}:∀ {xs vs},RVs c xs vs → xs.length=vs.length
  | _,_,.nil => rfl
  | _,_,.cons _ _ _ _ _ h => by simp [h.length]
theorem RVs.get {c:Cx}:∀ {xs:List AV} {vs:List Value},RVs c xs vs → ∀ {i:Nat} {x:AV},xs[i]? = some x → ∃ v,vs[i]? = some v ∧ RV c x v
  | _,_,.nil,i,x,h => by simp at h
  | _,_,.cons x v xs vs h1 h2,0,y,h => by simp at h; subst h; exact ⟨v,rfl,h1⟩
  | _,_,.cons x v xs vs h1 h2,i + 1,y,h => by simpa using h2.get (by simpa using h)
theorem RVs.append {c:Cx}:∀ {xs vs},RVs c xs vs → ∀ {ys us},RVs c ys us → RVs c (xs ++ ys) (vs ++ us)
  | _,_,.nil,_,_,h => h
  | _,_,.cons x v xs vs h1 h2,_,_,h => .cons x v _ _ h1 (h2.append h)
theorem RVs.of_get {c:Cx}:∀ {xs:List AV} {vs:List Value},xs.length=vs.length → (∀ (i:Nat) x v,xs[i]? = some x → vs[i]? = some v → RV c x v) → RVs c xs vs
  | [],[],_,_ => .nil
  | x :: xs,v :: vs,hl,h => .cons x v xs vs (h 0 x v rfl rfl) (RVs.of_get (by simpa using hl) fun i y u hx hv => h (i + 1) y u (by simpa using hx) (by simpa using hv))
theorem RVs.drop {c:Cx} (n:Nat) {xs vs} (h:RVs c xs vs):RVs c (xs.drop n) (vs.drop n) :=
  .of_get (by simp [h.length]) fun i x v hx hv => by
    rw [List.getElem?_drop] at hx hv
    obtain ⟨v',h1,h2⟩:=h.get hx
    rw [h1] at hv; cases hv; exact h2
theorem RVs.take {c:Cx} (n:Nat) {xs vs} (h:RVs c xs vs):RVs c (xs.take n) (vs.take n) :=
  .of_get (by simp [h.length]) fun i x v hx hv => by
    rw [List.getElem?_take] at hx hv
    split at hx
    · rename_i hi
      rw [if_pos hi] at hv
      obtain ⟨v',h1,h2⟩:=h.get hx
      rw [h1] at hv; cases hv; exact h2
    · cases hx
theorem RV.cells {c:Cx} {x v} (h:RV c x v):RVs c x.cells v.cells.toList:=by
  cases h with
  | agg cs vs h hs => simpa [AV.cells,Value.cells] using h
  | _ => simp only [AV.cells,Value.cells]; exact .cons _ _ _ _ (by constructor <;> assumption) .nil
theorem RV.cells_size {c:Cx} {x v} (h:RV c x v):v.cells.size=x.cells.length:=by
  have:=h.cells.length; simpa using this.symm
structure HR (base:Nat) (c:Cx):Prop where
  obj:∀ (k:Key) (o:AObj),lookK c.h k=some o → o.live=true → ∃ (arr:Array Value) (e:TypeId) (fr:Nat × Nat),c.w.heap[c.mu k]? = some (.cells arr e fr) ∧ (∀ i,i < arr.size → ¬ (fr.1 ≤ i ∧ i < fr.2)) ∧
    o.cells.length ≤ arr.size ∧ (o.exact=true → arr.size=o.cells.length) ∧ (o.exact=false → arr.size=(c.m k).2 * o.esz) ∧ ∀ (i:Nat) (x:AV),o.cells[i]? = some x → ∃ v:Value,arr[i]? = some v ∧ RV c x v ∧ x.scal=true
  mt:∀ k o,lookK c.h k=some o → o.live=true → o.mt=true → ¬ c.Rd (c.mu k) ∧ base ≤ c.mu k
  sld:∀ k o,lookK c.h k=some o → o.live=true → o.mt=false → c.Rd (c.mu k)
  inj:∀ k o k' o',lookK c.h k=some o → lookK c.h k'=some o' → o.live=true → o'.live=true → o.mt=true → o'.mt=true → c.mu k=c.mu k' → k=k'
  rd:∀ b,c.Rd b → b < c.w.heap.size
structure Ext (base:Nat) (c c':Cx):Prop where
  os:c'.w.os=c.w.os
  tape:c'.w.tape=c.w.tape
  output:c'.w.output=c.w.output
  size:c.w.heap.size ≤ c'.w.heap.size
  frame:∀ b,b < c.w.heap.size → ¬ c.Mut b → c'.w.heap[b]? = c.w.heap[b]?
  rd:∀ b,c.Rd b → c'.Rd b
  vk:∀ k,c.Vk k → c'.Vk k ∧ c'.m k=c.m k
  newrd:∀ b,c'.Rd b → c.Rd b ∨ c.w.heap.size ≤ b ∨ c.Mut b
  newmut:∀ b,c'.Mut b → c.Mut b ∨ c.w.heap.size ≤ b
theorem HR.not_mut {base c} (h:HR base c) {b:Nat} (hb:c.Rd b):¬ c.Mut b:=by
  rintro ⟨k,o,h1,h2,h3,rfl⟩
  exact (h.mt k o h1 h2 h3).1 hb
theorem Ext.same {base c c'} (e:Ext base c c') (h:HR base c) {b:Nat} (hb:c.Rd b):c'.Rd b ∧ c'.w.heap[b]? = c.w.heap[b]? :=
  ⟨e.rd b hb,e.frame b (h.rd b hb) (h.not_mut hb)⟩
theorem Ext.rv {base c c'} (e:Ext base c c') (h:HR base c) {x v} (hx:RV c x v):RV c' x v :=
  hx.mono (fun b hb => e.same h hb) fun k _ hk => e.vk k hk
theorem Ext.rvs {base c c'} (e:Ext base c c') (h:HR base c) {x v} (hx:RVs c x v):RVs c' x v :=
  hx.mono (fun b hb => e.same h hb) fun k _ hk => e.vk k hk
theorem Ext.refl (base c):Ext base c c :=
  ⟨rfl,rfl,rfl,Nat.le_refl _,fun _ _ _ => rfl,fun _ h => h,fun _ h => ⟨h,rfl⟩,fun _ h => .inl h,fun _ h => .inl h⟩
theorem Ext.trans {base a b c} (h:Ext base a b) (k:Ext base b c) (ha:HR base a):Ext base a c where
  os:=k.os.trans h.os
  tape:=k.tape.trans h.tape
  output:=k.output.trans h.output
  size:=Nat.le_trans h.size k.size
  frame:=fun x hx hm => (k.frame x (Nat.lt_of_lt_of_le hx h.size) fun hb => (h.newmut x hb).elim hm fun hl => by omega).trans (h.frame x hx hm)
  rd:=fun x hx => k.rd x (h.rd x hx)
  vk:=fun q hq => ⟨(k.vk q (h.vk q hq).1).1,(k.vk q (h.vk q hq).1).2.trans (h.vk q hq).2⟩
  newrd:=fun x hx => by
    rcases k.newrd x hx with h1 | h1 | h1
    · exact h.newrd x h1
    · exact .inr (.inl (Nat.le_trans h.size h1))
    · rcases h.newmut x h1 with h2 | h2
      · exact .inr (.inr h2)
      · exact .inr (.inl h2)
  newmut:=fun x hx => by
    rcases k.newmut x hx with h1 | h1
    · exact h.newmut x h1
    · exact .inr (Nat.le_trans h.size h1)
def FR (c:Cx) (n:Nat) (t:Fr) (tmps:Array Value):Prop:=tmps.size=n ∧ ∀ i v,lookT t i=some v → RV c v (tmps.getD i undef)
end Ab
/- Reads, writes and new memory, as the evaluator has them. Own work, no conditions. -/
set_option linter.unusedVariables false
set_option linter.unusedSimpArgs false
namespace Ab
open Go
theorem lookK_setK_same:∀ (h:Heap) (k:Key) (o:AObj),lookK (setK h k o) k=some o
  | [],k,o => by simp [setK,lookK]
  | (k',o') :: r,k,o => by
    by_cases e:k'=k
    · simp [setK,lookK,e]
    · simp [setK,lookK,e,lookK_setK_same r k o]
theorem lookK_setK_other:∀ (h:Heap) (k q:Key) (o:AObj),k ≠ q → lookK (setK h k o) q=lookK h q
  | [],k,q,o,e => by simp [setK,lookK,e]
  | (k',o') :: r,k,q,o,e => by
    by_cases e':k'=k
    · subst e'; simp [setK,lookK,e]
    · by_cases e2:k'=q
      · subst e2; simp [setK,lookK,e']
      · simp [setK,lookK,e',e2,lookK_setK_other r k q o e]
theorem lookK_setK (h:Heap) (k q:Key) (o:AObj):lookK (setK h k o) q=if k=q then some o else lookK h q:=by
  by_cases e:k=q
  · subst e; simp [lookK_setK_same]
  · simp [e,lookK_setK_other h k q o e]
theorem genOf_gt:∀ (h:Heap) (l s g:Nat) (o:AObj),lookK h (l,s,g)=some o → g < genOf h l s
  | [],l,s,g,o,h => by simp [lookK] at h
  | ((l',s',g'),o') :: r,l,s,g,o,h => by
    simp only [lookK] at h
    simp only [genOf]
    split at h
    · rename_i e; cases e; simp; omega
    · have:=genOf_gt r l s g o h
      split <;> omega
theorem lookK_fresh (h:Heap) (l s:Nat):lookK h (l,s,genOf h l s)=none:=by
  cases e:lookK h (l,s,genOf h l s) with
  | none => rfl
  | some o => exact absurd (genOf_gt h l s _ o e) (by omega)
theorem oneCell_of_scal {c:Cx} {x v} (h:RV c x v) (hs:x.scal=true):v.oneCell'=true:=by
  cases h <;> first | rfl | simp [AV.scal] at hs
theorem run_loadCellsFrom_at (P:Program) (b off:Nat):∀ (vs:List Value) (i:Nat) (acc:Array Value) (w:World),(∀ j cell,vs[j]? = some cell → w.cell? ⟨b,off + (i + j),none⟩=some cell) →
    (loadCellsFrom ⟨b,off,none⟩ i vs.length acc).run P w=.ok (acc ++ vs.toArray) w
  | [],i,acc,w,h => by simp [loadCellsFrom]
  | v :: r,i,acc,w,h => by
    have hadd:(⟨b,off,none⟩:Addr).add i=⟨b,off + i,none⟩:=by unfold Addr.add; split <;> simp_all
    have h0:=h 0 v rfl
    simp only [Nat.add_zero] at h0
    have ih:=run_loadCellsFrom_at P b off r (i + 1) (acc.push v) w fun j cell hj => by
      have:=h (j + 1) cell (by simpa using hj)
      rwa [show i + (j + 1)=i + 1 + j by omega] at this
    simp only [List.length_cons,loadCellsFrom,Sem.run_bind,hadd,load,Sem.run,h0]
    simp only [Result.andThen]
    rw [ih]
    simp
theorem run_loadCells_at (P:Program) (b off:Nat) (vs:List Value) (w:World) (n:Nat) (hn:n=vs.length) (h:∀ j cell,vs[j]? = some cell → w.cell? ⟨b,off + j,none⟩=some cell) :
    (loadCells ⟨b,off,none⟩ n).run P w=.ok vs.toArray w:=by
  subst hn
  unfold loadCells
  rw [run_loadCellsFrom_at P b off vs 0 #[] w (by simpa using h)]
  simp
theorem HR.cells {base c} (H:HR base c) {k o} (hk:lookK c.h k=some o) (hl:o.live=true) (off n:Nat) (hn:off + n ≤ o.cells.length) :
    ∃ vs:List Value,RVs c ((o.cells.drop off).take n) vs ∧ vs.length=n ∧ (∀ x ∈ (o.cells.drop off).take n,x.scal=true) ∧ ∀ (i:Nat) cell,vs[i]? = some cell → c.w.cell? ⟨c.mu k,off + i,none⟩=some cell:=by
  obtain ⟨arr,e,fr,h1,h2,h3,h4,h4b,h5⟩:=H.obj k o hk hl
  refine ⟨(arr.toList.drop off).take n,?_,by simp; omega,?_,?_⟩
  · refine .of_get (by simp; omega) fun i x v hx hv => ?_
    rw [List.getElem?_take,List.getElem?_drop] at hx hv
    split at hx
    · rename_i hi
      rw [if_pos hi] at hv
      obtain ⟨v',a1,a2,_⟩:=h5 _ _ hx
      rw [Array.getElem?_toList,a1] at hv; cases hv; exact a2
    · cases hx
  · intro x hx
    obtain ⟨i,hi⟩:=List.mem_iff_getElem?.1 hx
    rw [List.getElem?_take,List.getElem?_drop] at hi
    split at hi
    · obtain ⟨v',a1,a2,a3⟩:=h5 _ _ hi; exact a3
    · cases hi
  · intro i cell hi
    rw [List.getElem?_take,List.getElem?_drop] at hi
    split at hi
    · rw [Array.getElem?_toList] at hi
      simp [World.cell?,h1,hi]
    · cases hi
theorem readC_sound {base c} (H:HR base c) {p v cs n} (hr:readC c.h p n=some cs) (hv:RV c p v) :
    ∃ b off vs,v=.pointer (some ⟨b,off,none⟩) ∧ RVs c cs vs ∧ vs.length=n ∧ (∀ x ∈ cs,x.scal=true) ∧ ∀ (i:Nat) cell,vs[i]? = some cell → c.w.cell? ⟨b,off + i,none⟩=some cell:=by
  unfold readC at hr
  split at hr
  · rename_i key off
    split at hr
    · rename_i o ho
      split at hr
      · rename_i hc
        cases hr
        cases hv with
        | ptr _ _ hvk =>
          obtain ⟨vs,a1,a2,a3,a4⟩:=H.cells ho hc.1 off n hc.2
          exact ⟨_,off,vs,rfl,a1,a2,a3,a4⟩
      · cases hr
    · cases hr
  · rename_i cs'
    split at hr
    · rename_i hn
      cases hr
      cases hv with
      | pel _ vs b off h1 h2 h3 h4 h5 =>
        refine ⟨b,off,vs.take n,rfl,h1.take n,by have:=h1.length; simp; omega,fun x hx => h2 x (List.mem_of_mem_take hx),fun i cell hi => ?_⟩
        rw [List.getElem?_take] at hi
        split at hi
        · exact h5 i cell hi
        · cases hi
    · cases hr
  · cases hr
theorem setCells_heap (b:Nat):∀ (vs:List Value) (o:Nat) (w:World) (x:Nat),x ≠ b → (w.setCells b o vs).heap[x]? = w.heap[x]?
  | [],_,_,_,_ => rfl
  | v :: r,o,w,x,h => by
    rw [World.setCells,setCells_heap b r _ _ x h]
    exact Go.RowKit.Below.heap_setCell _ _ _ _ h
theorem setCells_misc (b:Nat):∀ (vs:List Value) (o:Nat) (w:World),(w.setCells b o vs).os=w.os ∧ (w.setCells b o vs).tape=w.tape ∧ (w.setCells b o vs).output=w.output ∧ (w.setCells b o vs).heap.size=w.heap.size
  | [],_,_ => ⟨rfl,rfl,rfl,rfl⟩
  | v :: r,o,w => by
    have:=setCells_misc b r (o + 1) (w.setCell ⟨b,o,none⟩ v)
    simpa [World.setCells,World.setCell] using this
theorem setCells_block (b:Nat) (e:TypeId) (fr:Nat × Nat):∀ (vs:List Value) (o:Nat) (w:World) (arr:Array Value),w.heap[b]? = some (.cells arr e fr) → o + vs.length ≤ arr.size →
    ∃ arr',(w.setCells b o vs).heap[b]? = some (.cells arr' e fr) ∧ arr'.size=arr.size ∧ (∀ i,i < vs.length → arr'[o + i]? = vs[i]?) ∧ ∀ i,(i < o ∨ o + vs.length ≤ i) → arr'[i]? = arr[i]?
  | [],o,w,arr,h,_ => ⟨arr,h,rfl,fun i hi => by simp at hi,fun _ _ => rfl⟩
  | v :: r,o,w,arr,h,hl => by
    have h1:(w.setCell ⟨b,o,none⟩ v).heap[b]? = some (.cells (arr.setIfInBounds o v) e fr):=by
      simp [World.setCell,Array.getElem?_modify,h]
    obtain ⟨arr',a1,a2,a3,a4⟩:=setCells_block b e fr r (o + 1) _ _ h1 (by simp at hl ⊢; omega)
    refine ⟨arr',a1,by simpa using a2,fun i hi => ?_,fun i hi => ?_⟩
    · cases i with
      | zero =>
        rw [Nat.add_zero,a4 o (by omega)]
        simp at hl
        simp [Array.getElem?_setIfInBounds]; omega
      | succ i =>
        have:=a3 i (by simpa using hi)
        rw [show o + (i + 1)=o + 1 + i by omega,this]; simp
    · simp at hi
      rw [a4 i (by omega),Array.getElem?_setIfInBounds,if_neg (by omega)]
theorem writeL_length (cs:List AV) (off:Nat) (vs:List AV) (h:off + vs.length ≤ cs.length):(writeL cs off vs).length=cs.length:=by
  simp [writeL]; omega
theorem writeL_get (cs:List AV) (off:Nat) (vs:List AV) (h:off + vs.length ≤ cs.length) (i:Nat) :
    (writeL cs off vs)[i]? = if i < off then cs[i]? else if i < off + vs.length then vs[i - off]? else cs[i]?:=by
  unfold writeL
  rw [List.append_assoc,List.getElem?_append,List.getElem?_append]
  simp only [List.length_take,List.getElem?_take,List.getElem?_drop]
  have:min off cs.length=off:=by omega
  rw [this]
  by_cases h1:i < off
  · simp [h1]
  · simp only [h1,if_false]
    by_cases h2:i < off + vs.length
    · rw [if_pos (by omega),if_pos h2]
    · rw [if_neg (by omega),if_neg h2]; congr 1; omega
theorem writeC_sound (P:Program) {base c} (H:HR base c) {k off vs us h'} (hw:writeC c.h k off vs=some h') (hv:RVs c vs us) :
    ∃ c',c'.h=h' ∧ c'.m=c.m ∧ (storeCells ⟨c.mu k,off,none⟩ us).run P c.w=.ok () c'.w ∧ HR base c' ∧ Ext base c c':=by
  unfold writeC at hw
  split at hw
  case h_2 => cases hw
  rename_i o ho
  split at hw
  case isFalse => cases hw
  rename_i hc
  cases hw
  obtain ⟨hl,hm,hlen,hsc⟩:=hc
  obtain ⟨arr,e,fr,h1,h2,h3,h4,h4b,h5⟩:=H.obj k o ho hl
  have hul:=hv.length
  obtain ⟨arr',b1,b2,b3,b4⟩:=setCells_block (c.mu k) e fr us off c.w arr h1 (by omega)
  have hmisc:=setCells_misc (c.mu k) us off c.w
  have hmut:c.Mut (c.mu k):=⟨k,o,ho,hl,hm,rfl⟩
  let c':Cx:={ c with w:=c.w.setCells (c.mu k) off us,h:=setK c.h k { o with cells:=writeL o.cells off vs } }
  have hX:Ext base c c':=by
    refine ⟨hmisc.1,hmisc.2.1,hmisc.2.2.1,Nat.le_of_eq hmisc.2.2.2.symm,fun b hb hn => setCells_heap _ _ _ _ b fun e => hn (e ▸ hmut),fun _ h => h,?_,fun b h => .inl h,?_⟩
    · rintro q ⟨oq,hq⟩
      refine ⟨?_,rfl⟩
      show ∃ _,lookK (setK _ _ _) q=_
      rw [lookK_setK]; split
      · exact ⟨_,rfl⟩
      · exact ⟨_,hq⟩
    · rintro b ⟨q,oq,hq,ql,qm,rfl⟩
      refine .inl ?_
      change lookK (setK _ _ _) q=_ at hq
      rw [lookK_setK] at hq
      split at hq
      · rename_i e; subst e; exact hmut
      · exact ⟨q,oq,hq,ql,qm,rfl⟩
  refine ⟨c',rfl,rfl,?_,?_,hX⟩
  · have hcell:∀ j,j < us.length → c.w.cell? ⟨c.mu k,off + j,none⟩=arr[off + j]?:=fun j _ => by simp [World.cell?,h1]
    have:=run_storeCells_cells (P:=P) (c.mu k) off us 0 c.w (fun j hj => by
        rw [Nat.add_zero,hcell j hj,Array.getElem?_eq_getElem (by omega)]; rfl)
      (fun j hj => by
        have:=h2 (off + j) (by omega)
        simp only [World.frozen?,Nat.add_zero,h1]
        simpa using this)
      (fun v hv' => by
        obtain ⟨i,hi⟩:=List.mem_iff_getElem?.1 hv'
        obtain ⟨hi',_⟩:=List.getElem?_eq_some_iff.1 hi
        have hx:vs[i]? = some (vs[i]'(by omega)):=List.getElem?_eq_getElem (by omega)
        obtain ⟨v',q1,q2⟩:=hv.get hx
        rw [hi] at q1; cases q1
        exact oneCell_of_scal q2 (List.all_eq_true.1 hsc _ (List.getElem_mem _)))
    simpa using this
  · have key:∀ q oq,lookK c'.h q=some oq → (q=k ∧ oq = { o with cells:=writeL o.cells off vs }) ∨ (q ≠ k ∧ lookK c.h q=some oq):=by
      intro q oq hq
      change lookK (setK _ _ _) q=_ at hq
      rw [lookK_setK] at hq
      split at hq
      · rename_i e; cases hq; exact .inl ⟨e.symm,rfl⟩
      · rename_i e; exact .inr ⟨fun x => e x.symm,hq⟩
    refine ⟨?_,?_,?_,?_,fun b hb => ?_⟩
    · intro q oq hq ql
      rcases key q oq hq with ⟨rfl,rfl⟩ | ⟨hne,hq'⟩
      · refine ⟨arr',e,fr,b1,fun i hi => h2 i (by omega),by rw [b2]; simpa [writeL_length _ _ _ hlen] using h3,fun hx => by rw [b2,writeL_length _ _ _ hlen]; exact h4 hx,fun hx => by rw [b2]; exact h4b hx,fun i x hx => ?_⟩
        dsimp only at hx
        rw [writeL_get _ _ _ hlen] at hx
        split at hx
        · rename_i hi
          obtain ⟨v,q1,q2,q3⟩:=h5 i x hx
          exact ⟨v,by rw [b4 i (.inl hi)]; exact q1,hX.rv H q2,q3⟩
        · rename_i hi
          split at hx
          · rename_i hi2
            obtain ⟨v,q1,q2⟩:=hv.get hx
            refine ⟨v,?_,hX.rv H q2,List.all_eq_true.1 hsc _ (List.mem_of_getElem? hx)⟩
            have:=b3 (i - off) (by omega)
            rw [show off + (i - off)=i by omega] at this
            rw [this]; exact q1
          · rename_i hi2
            obtain ⟨v,q1,q2,q3⟩:=h5 i x hx
            exact ⟨v,by rw [b4 i (.inr (by omega))]; exact q1,hX.rv H q2,q3⟩
      · obtain ⟨ar,er,fr',g1,g2,g3,g4,g4b,g5⟩:=H.obj q oq hq' ql
        have hne':c.mu q ≠ c.mu k:=by
          intro e
          cases hqm:oq.mt with
          | true => exact hne (H.inj q oq k o hq' ho ql hl hqm hm e)
          | false => exact (H.mt k o ho hl hm).1 (e ▸ H.sld q oq hq' ql hqm)
        exact ⟨ar,er,fr',(setCells_heap _ _ _ _ _ hne').trans g1,g2,g3,g4,g4b,fun i x hx => by
          obtain ⟨v,q1,q2,q3⟩:=g5 i x hx
          exact ⟨v,q1,hX.rv H q2,q3⟩⟩
    · intro q oq hq ql qm
      rcases key q oq hq with ⟨rfl,rfl⟩ | ⟨hne,hq'⟩
      · exact H.mt q o ho hl hm
      · exact H.mt q oq hq' ql qm
    · intro q oq hq ql qm
      rcases key q oq hq with ⟨rfl,rfl⟩ | ⟨hne,hq'⟩
      · rw [hm] at qm; cases qm
      · exact H.sld q oq hq' ql qm
    · intro q oq q' oq' hq hq' ql ql' qm qm' e
      rcases key q oq hq with ⟨rfl,rfl⟩ | ⟨hne,hq1⟩
      · rcases key q' oq' hq' with ⟨rfl,rfl⟩ | ⟨hne',hq2⟩
        · rfl
        · exact H.inj _ _ _ _ ho hq2 hl ql' hm qm' e
      · rcases key q' oq' hq' with ⟨rfl,rfl⟩ | ⟨hne',hq2⟩
        · exact H.inj _ _ _ _ hq1 ho ql hl qm hm e
        · exact H.inj _ _ _ _ hq1 hq2 ql ql' qm qm' e
    · show b < (c.w.setCells _ _ _).heap.size
      rw [hmisc.2.2.2]; exact H.rd b hb
theorem newK_sound {base c} (H:HR base c) (hb:base ≤ c.w.heap.size) {lvl slot cs exact esz eagg h' k'} (hn:newK c.h lvl slot cs exact esz eagg=(h',k'))
    (arr:Array Value) (e:TypeId) (fr:Nat × Nat) (hfr:∀ i,i < arr.size → ¬ (fr.1 ≤ i ∧ i < fr.2)) (hlen:cs.length ≤ arr.size) (hex:exact=true → arr.size=cs.length) (cp:Nat) (hcp:exact=false → arr.size=cp * esz)
    (hcs:∀ (i:Nat) x,cs[i]? = some x → ∃ v,arr[i]? = some v ∧ RV c x v ∧ x.scal=true) (n:Nat) :
    ∃ c',c'.h=h' ∧ c'.w = { c.w with heap:=c.w.heap.push (.cells arr e fr),drawn:=c.w.drawn + n } ∧ c'.m k'=(c.w.heap.size,cp) ∧ c'.Vk k' ∧ HR base c' ∧ Ext base c c':=by
  unfold newK at hn
  cases hn
  let k:Key:=(lvl,slot,genOf c.h lvl slot)
  have hfresh:lookK c.h k=none:=lookK_fresh _ _ _
  let c':Cx:={ w:={ c.w with heap:=c.w.heap.push (.cells arr e fr),drawn:=c.w.drawn + n },Rd:=c.Rd,m:=fun q => if q=k then (c.w.heap.size,cp) else c.m q,h:=setK c.h k ⟨cs,true,true,exact,esz,eagg⟩ }
  have hm:∀ q o,lookK c.h q=some o → c'.m q=c.m q:=fun q o hq => if_neg fun e => by subst e; rw [hfresh] at hq; cases hq
  have hmu:∀ q o,lookK c.h q=some o → c'.mu q=c.mu q:=fun q o hq => congrArg Prod.fst (hm q o hq)
  have hmk:c'.m k=(c.w.heap.size,cp):=if_pos rfl
  have hmuk:c'.mu k=c.w.heap.size:=congrArg Prod.fst hmk
  have hold:∀ b,b < c.w.heap.size → c'.w.heap[b]? = c.w.heap[b]?:=fun b hb' => by
    show (c.w.heap.push _)[b]? = _
    rw [Array.getElem?_push,if_neg (by omega)]
  have key:∀ q oq,lookK c'.h q=some oq → (q=k ∧ oq=⟨cs,true,true,exact,esz,eagg⟩) ∨ (q ≠ k ∧ lookK c.h q=some oq):=by
    intro q oq hq
    change lookK (setK _ _ _) q=_ at hq
    rw [lookK_setK] at hq
    split at hq
    · rename_i e; cases hq; exact .inl ⟨e.symm,rfl⟩
    · rename_i e; exact .inr ⟨fun x => e x.symm,hq⟩
  have hX:Ext base c c':=by
    refine ⟨rfl,rfl,rfl,by show _ ≤ (c.w.heap.push _).size; simp,fun b hb' _ => hold b hb',fun _ h => h,?_,fun b h => .inl h,?_⟩
    · rintro q ⟨oq,hq⟩
      refine ⟨?_,hm q oq hq⟩
      show ∃ _,lookK (setK _ _ _) q=_
      rw [lookK_setK]; split
      · exact ⟨_,rfl⟩
      · exact ⟨_,hq⟩
    · rintro b ⟨q,oq,hq,ql,qm,rfl⟩
      rcases key q oq hq with ⟨rfl,rfl⟩ | ⟨hne,hq'⟩
      · exact .inr (by rw [hmuk]; exact Nat.le_refl _)
      · exact .inl ⟨q,oq,hq',ql,qm,(hmu q oq hq').symm⟩
  refine ⟨c',rfl,rfl,hmk,⟨_,lookK_setK_same _ _ _⟩,⟨?_,?_,?_,?_,fun b hb' => ?_⟩,hX⟩
  · intro q oq hq ql
    rcases key q oq hq with ⟨rfl,rfl⟩ | ⟨hne,hq'⟩
    · refine ⟨arr,e,fr,?_,hfr,hlen,hex,fun hx => by rw [hmk]; exact hcp hx,fun i x hx => ?_⟩
      · rw [hmuk]
        show (c.w.heap.push _)[_]? = _
        rw [Array.getElem?_push,if_pos rfl]
      · obtain ⟨v,q1,q2,q3⟩:=hcs i x hx
        exact ⟨v,q1,hX.rv H q2,q3⟩
    · obtain ⟨ar,er,fr',g1,g2,g3,g4,g4b,g5⟩:=H.obj q oq hq' ql
      refine ⟨ar,er,fr',?_,g2,g3,g4,fun hx => by rw [hm q oq hq']; exact g4b hx,fun i x hx => by
        obtain ⟨v,q1,q2,q3⟩:=g5 i x hx
        exact ⟨v,q1,hX.rv H q2,q3⟩⟩
      rw [hmu q oq hq',hold _ (Array.getElem?_eq_some_iff.1 g1).1]; exact g1
  · intro q oq hq ql qm
    rcases key q oq hq with ⟨rfl,rfl⟩ | ⟨hne,hq'⟩
    · rw [hmuk]
      exact ⟨fun h => absurd (H.rd _ h) (by omega),hb⟩
    · rw [hmu q oq hq']; exact H.mt q oq hq' ql qm
  · intro q oq hq ql qm
    rcases key q oq hq with ⟨rfl,rfl⟩ | ⟨hne,hq'⟩
    · cases qm
    · rw [hmu q oq hq']; exact H.sld q oq hq' ql qm
  · have lt:∀ q oq,lookK c.h q=some oq → oq.live=true → c.mu q < c.w.heap.size:=fun q oq hq ql => by
      obtain ⟨ar,er,fr',g1,_⟩:=H.obj q oq hq ql
      exact (Array.getElem?_eq_some_iff.1 g1).1
    intro q oq q' oq' hq hq' ql ql' qm qm' e
    rcases key q oq hq with ⟨rfl,rfl⟩ | ⟨hne,hq1⟩
    · rcases key q' oq' hq' with ⟨rfl,rfl⟩ | ⟨hne',hq2⟩
      · rfl
      · rw [hmu q' oq' hq2] at e
        have:=lt q' oq' hq2 ql'
        have e':c.w.heap.size=c.mu q':=by rw [← e,hmuk]
        omega
    · rcases key q' oq' hq' with ⟨rfl,rfl⟩ | ⟨hne',hq2⟩
      · rw [hmu q oq hq1] at e
        have:=lt q oq hq1 ql
        have e':c.mu q=c.w.heap.size:=by rw [e,hmuk]
        omega
      · rw [hmu q oq hq1,hmu q' oq' hq2] at e
        exact H.inj _ _ _ _ hq1 hq2 ql ql' qm qm' e
  · show b < (c.w.heap.push _).size
    have:=H.rd b hb'
    simp; omega
end Ab
/- What is handed away stands still. Own work, no conditions. -/
set_option linter.unusedVariables false
set_option linter.unusedSimpArgs false
namespace Ab
open Go
def chunkV (agg:Bool) (sz:Nat):Nat → List Value → List Value
  | 0,_ => []
  | n + 1,cs => (if agg then .agg ⟨cs.take sz⟩ else (cs.head?).getD (.pointer none)) :: chunkV agg sz n (cs.drop sz)
theorem chunk_length (agg sz):∀ n cs,(chunk agg sz n cs).length=n
  | 0,_ => rfl
  | n + 1,cs => by simp [chunk,chunk_length]
theorem chunk_pure (agg sz):∀ n (cs:List AV),(∀ x ∈ cs,x.pure=true) → ∀ x ∈ chunk agg sz n cs,x.pure=true
  | 0,_,_,x,hx => by simp [chunk] at hx
  | n + 1,cs,h,x,hx => by
    simp only [chunk,List.mem_cons] at hx
    rcases hx with rfl | hx
    · split
      · simp only [AV.pure]; exact (AV.pureL_all _).2 fun y hy => h y (List.mem_of_mem_take hy)
      · cases cs with
        | nil => rfl
        | cons y ys => simpa using h y (by simp)
    · exact chunk_pure agg sz n _ (fun y hy => h y (List.mem_of_mem_drop hy)) x hx
theorem cells_scal {c:Cx} {x v} (h:RV c x v) (hs:x.scal=true):v.cells.toList=[v]:=by
  cases h <;> first | rfl | simp [AV.scal] at hs
theorem chunk_rvs {c:Cx} (agg:Bool) (sz:Nat) (hsz:agg=false → sz=1):∀ n (cs:List AV) (us:List Value),RVs c cs us → (∀ x ∈ cs,x.scal=true) → n * sz ≤ cs.length →
    RVs c (chunk agg sz n cs) (chunkV agg sz n us) ∧ (∀ v ∈ chunkV agg sz n us,v.cells.size=sz) ∧ (chunkV agg sz n us).flatMap (·.cells.toList)=us.take (n * sz)
  | 0,cs,us,h,hs,hl => ⟨.nil,by simp [chunkV],by simp [chunkV]⟩
  | n + 1,cs,us,h,hs,hl => by
    have hlen:=h.length
    have e:(n + 1) * sz=sz + n * sz:=by rw [Nat.add_mul,Nat.one_mul,Nat.add_comm]
    obtain ⟨a1,a2,a3⟩:=chunk_rvs agg sz hsz n (cs.drop sz) (us.drop sz) (h.drop sz) (fun x hx => hs x (List.mem_of_mem_drop hx)) (by simp; omega)
    cases agg with
    | true =>
      simp only [chunk,chunkV,if_true]
      refine ⟨.cons _ _ _ _ (.agg _ _ (h.take sz) fun x hx => hs x (List.mem_of_mem_take hx)) a1,fun v hv => ?_,?_⟩
      · rcases List.mem_cons.1 hv with rfl | hv
        · simp [Value.cells]; omega
        · exact a2 v hv
      · rw [List.flatMap_cons,a3,e,List.take_add]; rfl
    | false =>
      obtain rfl:=hsz rfl
      cases h with
      | nil => simp at hl
      | cons x v xs vs h1 h2 =>
        simp only [chunk,chunkV]
        have hc:=cells_scal h1 (hs x (by simp))
        refine ⟨.cons _ _ _ _ (by simpa using h1) (by simpa using a1),fun u hu => ?_,?_⟩
        · rcases List.mem_cons.1 hu with hu | hu
          · have hu':u=v:=by simpa using hu
            rw [hu',← Array.length_toList,hc]; rfl
          · exact a2 u hu
        · rw [List.flatMap_cons,a3]
          simp [hc,List.take_succ_cons]
theorem sealL_pure (f:Heap → AV → Option (AV × Heap)) (hf:∀ h v v' h',f h v=some (v',h') → v'.pure=true) :
    ∀ l h l' h',sealLW f h l=some (l',h') → AV.pureL l'=true
  | [],h,l',h',e => by simp [sealLW] at e; obtain ⟨rfl,_⟩:=e; rfl
  | x :: r,h,l',h',e => by
    simp only [sealLW] at e
    split at e
    case h_2 => cases e
    rename_i y h1 e1
    split at e
    case h_2 => cases e
    rename_i l2 h2 e2
    cases e
    simp [AV.pureL,hf _ _ _ _ e1,sealL_pure f hf _ _ _ _ e2]
theorem sealA_pure:∀ n h v v' h',sealA n h v=some (v',h') → v'.pure=true
  | 0,h,v,v',h',e => by simp [sealA] at e
  | n + 1,h,v,v',h',e => by
    unfold sealA at e
    split at e
    · rename_i hp; cases e; exact hp
    · split at e
      · split at e
        · split at e
          · split at e
            · cases e; rfl
            · cases e
          · cases e
        · cases e
      · split at e
        · rename_i e1
          split at e
          · cases e; simpa [AV.pure] using sealL_pure _ (sealA_pure n) _ _ _ _ e1
          · cases e
        · cases e
      · split at e
        · rename_i e1; cases e; simpa [AV.pure] using sealL_pure _ (sealA_pure n) _ _ _ _ e1
        · cases e
      · cases e
def SealOK (base:Nat) (f:Heap → AV → Option (AV × Heap)):Prop :=
  ∀ c v v' h' val,f c.h v=some (v',h') → HR base c → RV c v val → ∃ c',c'.h=h' ∧ c'.w=c.w ∧ c'.m=c.m ∧ HR base c' ∧ Ext base c c' ∧ RV c' v' val
theorem sealL_sound {base f} (hf:SealOK base f):∀ l c l' h' vals,sealLW f c.h l=some (l',h') → HR base c → RVs c l vals →
    ∃ c',c'.h=h' ∧ c'.w=c.w ∧ c'.m=c.m ∧ HR base c' ∧ Ext base c c' ∧ RVs c' l' vals
  | [],c,l',h',vals,e,H,hv => by
    simp [sealLW] at e; obtain ⟨rfl,rfl⟩:=e
    exact ⟨c,rfl,rfl,rfl,H,.refl _ _,hv⟩
  | x :: r,c,l',h',_,e,H,.cons _ v _ vs h1 h2 => by
    simp only [sealLW] at e
    split at e
    case h_2 => cases e
    rename_i y hh e1
    split at e
    case h_2 => cases e
    rename_i l2 hh2 e2
    cases e
    obtain ⟨c1,a1,a2,a3,a4,a5,a6⟩:=hf c x y hh v e1 H h1
    subst a1
    obtain ⟨c2,b1,b2,b3,b4,b5,b6⟩:=sealL_sound hf r c1 l2 _ vs e2 a4 (a5.rvs H h2)
    exact ⟨c2,b1,b2.trans a2,b3.trans a3,b4,a5.trans b5 H,.cons _ _ _ _ (b5.rv a4 a6) b6⟩
theorem mark_sound {base c} (H:HR base c) {k o} (hk:lookK c.h k=some o) (hl:o.live=true) :
    ∃ c',c'.h=setK c.h k { o with mt:=false } ∧ c'.w=c.w ∧ c'.m=c.m ∧ HR base c' ∧ Ext base c c' ∧ c'.Rd (c.mu k):=by
  obtain ⟨arr,e,fr,h1,h2,h3,h4,h4b,h5⟩:=H.obj k o hk hl
  let c':Cx:={ c with Rd:=fun b => c.Rd b ∨ b=c.mu k,h:=setK c.h k { o with mt:=false } }
  have key:∀ q oq,lookK c'.h q=some oq → (q=k ∧ oq = { o with mt:=false }) ∨ (q ≠ k ∧ lookK c.h q=some oq):=by
    intro q oq hq
    change lookK (setK _ _ _) q=_ at hq
    rw [lookK_setK] at hq
    split at hq
    · rename_i e; cases hq; exact .inl ⟨e.symm,rfl⟩
    · rename_i e; exact .inr ⟨fun x => e x.symm,hq⟩
  have hX:Ext base c c':=by
    refine ⟨rfl,rfl,rfl,Nat.le_refl _,fun _ _ _ => rfl,fun _ h => .inl h,?_,?_,?_⟩
    · rintro q ⟨oq,hq⟩
      refine ⟨?_,rfl⟩
      show ∃ _,lookK (setK _ _ _) q=_
      rw [lookK_setK]; split
      · exact ⟨_,rfl⟩
      · exact ⟨_,hq⟩
    · rintro b (h | rfl)
      · exact .inl h
      · cases hm:o.mt with
        | true => exact .inr (.inr ⟨k,o,hk,hl,hm,rfl⟩)
        | false => exact .inl (H.sld k o hk hl hm)
    · rintro b ⟨q,oq,hq,ql,qm,rfl⟩
      rcases key q oq hq with ⟨rfl,rfl⟩ | ⟨hne,hq'⟩
      · cases qm
      · exact .inl ⟨q,oq,hq',ql,qm,rfl⟩
  refine ⟨c',rfl,rfl,rfl,⟨?_,?_,?_,?_,?_⟩,hX,.inr rfl⟩
  · intro q oq hq ql
    rcases key q oq hq with ⟨rfl,rfl⟩ | ⟨hne,hq'⟩
    · exact ⟨arr,e,fr,h1,h2,h3,h4,h4b,fun i x hx => by
        obtain ⟨v,q1,q2,q3⟩:=h5 i x hx
        exact ⟨v,q1,hX.rv H q2,q3⟩⟩
    · obtain ⟨ar,er,fr',g1,g2,g3,g4,g4b,g5⟩:=H.obj q oq hq' ql
      exact ⟨ar,er,fr',g1,g2,g3,g4,g4b,fun i x hx => by
        obtain ⟨v,q1,q2,q3⟩:=g5 i x hx
        exact ⟨v,q1,hX.rv H q2,q3⟩⟩
  · intro q oq hq ql qm
    rcases key q oq hq with ⟨rfl,rfl⟩ | ⟨hne,hq'⟩
    · cases qm
    · refine ⟨?_,(H.mt q oq hq' ql qm).2⟩
      rintro (h | h)
      · exact (H.mt q oq hq' ql qm).1 h
      · change c.mu q=c.mu k at h
        cases hm:o.mt with
        | true => exact hne (H.inj _ _ _ _ hq' hk ql hl qm hm h)
        | false => exact (H.mt q oq hq' ql qm).1 (h ▸ H.sld k o hk hl hm)
  · intro q oq hq ql qm
    rcases key q oq hq with ⟨rfl,rfl⟩ | ⟨hne,hq'⟩
    · exact .inr rfl
    · exact .inl (H.sld q oq hq' ql qm)
  · intro q oq q' oq' hq hq' ql ql' qm qm' e
    rcases key q oq hq with ⟨rfl,rfl⟩ | ⟨hne,hq1⟩
    · cases qm
    · rcases key q' oq' hq' with ⟨rfl,rfl⟩ | ⟨hne',hq2⟩
      · cases qm'
      · exact H.inj _ _ _ _ hq1 hq2 ql ql' qm qm' e
  · rintro b (h | rfl)
    · exact H.rd b h
    · exact (Array.getElem?_eq_some_iff.1 h1).1
theorem sealA_sound (base:Nat):∀ n,SealOK base (sealA n)
  | 0 => fun c v v' h' val e _ _ => by simp [sealA] at e
  | n + 1 => fun c v v' h' val e H hv => by
    have ih:=sealA_sound base n
    unfold sealA at e
    split at e
    · cases e; exact ⟨c,rfl,rfl,rfl,H,.refl _ _,hv⟩
    · split at e
      · rename_i key off len cap _
        split at e
        case h_2 => cases e
        rename_i o ho
        split at e
        case isFalse => cases e
        rename_i hc
        obtain ⟨hl,hlen,hsz⟩:=hc
        split at e
        case h_2 => cases e
        rename_i cs hh e1
        cases e
        obtain ⟨c1,a1,a2,a3,a4,a5,a6⟩:=mark_sound H ho hl
        obtain ⟨us,b1,b2,b3,b4⟩:=H.cells ho hl off (len * o.esz) hlen
        rw [← a1] at e1
        obtain ⟨c2,d1,d2,d3,d4,d5,d6⟩:=sealL_sound ih _ c1 cs _ us e1 a4 (a5.rvs H b1)
        have hpure:=sealL_pure _ (sealA_pure n) _ _ _ _ e1
        have hscal:∀ x ∈ cs,x.scal=true:=by
          intro x hx
          obtain ⟨i,hi⟩:=List.mem_iff_getElem?.1 hx
          obtain ⟨v,q1,q2⟩:=d6.get hi
          have hlt:i < us.length:=(List.getElem?_eq_some_iff.1 q1).1
          have hy:((o.cells.drop off).take (len * o.esz))[i]? = some (((o.cells.drop off).take (len * o.esz))[i]'(by rw [b1.length]; exact hlt)):=List.getElem?_eq_getElem _
          obtain ⟨v2,q3,q4⟩:=b1.get hy
          rw [q1] at q3; cases q3
          have h1:=oneCell_of_scal q4 (b3 _ (List.getElem_mem _))
          cases q2 <;> first | rfl | simp [Value.oneCell'] at h1
        cases hv with
        | ref _ _ _ _ cap' hvk hcl hcap hcp =>
        have hlen2:cs.length=len * o.esz:=d6.length.trans b2
        obtain ⟨g1,g2,g3⟩:=chunk_rvs o.eagg o.esz hsz len cs us d6 hscal (by omega)
        refine ⟨c2,d1,d2.trans a2,d3.trans a3,d4,a5.trans d5 H,?_⟩
        cases len with
        | zero => exact .slE _ _ _ _ (by simp) (by simp) hcap
        | succ m =>
          have hne:chunk o.eagg o.esz (m + 1) cs ≠ []:=by simp [chunk]
          have hcl':=chunk_length o.eagg o.esz (m + 1) cs
          have:=RV.slC (c:=c2) (chunk o.eagg o.esz (m + 1) cs) (chunkV o.eagg o.esz (m + 1) us) (c.mu key) off o.esz cap cap' hne g1 g2
            (chunk_pure _ _ _ _ ((AV.pureL_all cs).1 hpure)) (d5.rd _ a6) (fun i cell hi => by
              rw [g3,List.take_of_length_le (by omega)] at hi
              rw [d2,a2]; exact b4 i cell hi) (by omega) hcap
          rw [hcl'] at this
          exact this
      · rename_i cs
        split at e
        case h_2 => cases e
        rename_i l hh e1
        split at e
        case isFalse => cases e
        rename_i hs
        cases e
        cases hv with
        | agg _ vs h1 h2 =>
        obtain ⟨c2,d1,d2,d3,d4,d5,d6⟩:=sealL_sound ih _ c l _ vs e1 H h1
        exact ⟨c2,d1,d2,d3,d4,d5,.agg _ _ d6 (List.all_eq_true.1 hs)⟩
      · rename_i cs
        split at e
        case h_2 => cases e
        rename_i l hh e1
        cases e
        cases hv with
        | tup _ vs h1 =>
        obtain ⟨c2,d1,d2,d3,d4,d5,d6⟩:=sealL_sound ih _ c l _ vs e1 H h1
        exact ⟨c2,d1,d2,d3,d4,d5,.tup _ _ d6⟩
      · cases e
end Ab
/- The evaluator's computations are the model's. Own work, no conditions. -/
set_option linter.unusedVariables false
set_option linter.unusedSimpArgs false
namespace Ab
open Go
def dOK:TypeDesc → Ty → Bool
  | .int k,.int k' => k == k'
  | .bool,.bool => true
  | .string,.str => true
  | .slice e,.slice e' => e == e'
  | .pointer e,.ptr e' => e == e'
  | .struct fs,.strct l => (fs.toList.map fun f => (f.offset,f.type)) == l
  | .array n e,.arr n' e' => n == n' && e == e'
  | .func ..,.func => true
  | .interface ms,.iface e => e == ms.isEmpty
  | _,_ => false
structure TyOK (P:Program) (t:TypeId) (τ:TyI):Prop where
  info:∃ i z,P.info? t=some i ∧ i.size=τ.size ∧ i.bytes=τ.bytes ∧ i.zero=some z ∧ ofVL z.cells.toList=some τ.zero ∧ τ.zero.all AV.scal=true ∧ τ.zero.length=τ.size ∧ AV.pureL τ.zero=true
  desc:∃ d,P.underlying t=some d ∧ dOK d τ.d=true
def CmpOK (P:Program) (t:TypeId) (z:List AV):Prop :=
  ∀ (c:Cx) cs ds vs us b (w:World) ox oy,fitZ z cs=true → eqL cs ds=some b → RVs c cs vs → RVs c ds us →
    (do eqGuard .eql t ox oy (.agg ⟨vs⟩) (.agg ⟨us⟩); binOp .eql t (.agg ⟨vs⟩) (.agg ⟨us⟩):Sem Value).run P w=.ok (.bool b) w ∧
    (do eqGuard .neq t ox oy (.agg ⟨vs⟩) (.agg ⟨us⟩); binOp .neq t (.agg ⟨vs⟩) (.agg ⟨us⟩):Sem Value).run P w=.ok (.bool (!b)) w
mutual
theorem ofV_sound (c:Cx):∀ (v:Value) (x:AV),ofV v=some x → RV c x v
  | .int k n,x,h => by simp [ofV] at h; subst h; exact .int k n
  | .bool b,x,h => by simp [ofV] at h; subst h; exact .bool b
  | .string s,x,h => by simp only [ofV,Option.some.injEq] at h; subst h; exact .str _ s rfl
  | .slice a l cap,x,h => by
    cases a with
    | none =>
      cases l with
      | zero => cases cap with
        | zero => simp [ofV] at h; subst h; exact .slE true none (some 0) 0 (by simp) (by simp) (by simp)
        | succ n => simp [ofV] at h
      | succ n => simp [ofV] at h
    | some a => simp [ofV] at h
  | .pointer a,x,h => by
    cases a with
    | none => simp [ofV] at h; subst h; exact .nilp
    | some a => simp [ofV] at h
  | .nilFunc,x,h => by simp [ofV] at h; subst h; exact .nilf
  | .nilIface,x,h => by simp [ofV] at h; subst h; exact .nili
  | .agg ⟨cs⟩,x,h => by
    simp only [ofV] at h
    cases e:ofVL cs with
    | none => simp [e] at h
    | some l =>
      simp only [e,Option.bind_some] at h
      split at h
      · rename_i hs
        cases h
        exact .agg _ _ (ofVL_sound c cs l e) (List.all_eq_true.1 hs)
      · cases h
  | .tuple ⟨cs⟩,x,h => by
    simp only [ofV] at h
    cases e:ofVL cs with
    | none => simp [e] at h
    | some l =>
      simp only [e,Option.map_some,Option.some.injEq] at h
      subst h
      exact .tup _ _ (ofVL_sound c cs l e)
  | .float ..,x,h => by simp [ofV] at h
  | .complex ..,x,h => by simp [ofV] at h
  | .map ..,x,h => by simp [ofV] at h
  | .chan ..,x,h => by simp [ofV] at h
  | .func ..,x,h => by simp [ofV] at h
  | .iface ..,x,h => by simp [ofV] at h
theorem ofVL_sound (c:Cx):∀ (vs:List Value) (xs:List AV),ofVL vs=some xs → RVs c xs vs
  | [],xs,h => by simp [ofVL] at h; subst h; exact .nil
  | v :: r,xs,h => by
    simp only [ofVL] at h
    split at h
    · rename_i x l e1 e2
      cases h
      exact .cons _ _ _ _ (ofV_sound c v x e1) (ofVL_sound c r l e2)
    · cases h
end
def GOK (E:Env) (c:Cx):Prop:=∀ g cs,E.glob g=some cs → RV c (.pel cs) (.pointer (some ⟨g,0,none⟩))
theorem opd_sound {E:Env} {c n t} {a:Act} (G:GOK E c) (hf:FR c n t a.tmps) {o x} (h:opd E t o=some x):RV c x (a.eval o):=by
  cases o with
  | tmp i => exact hf.2 i x h
  | const v => exact ofV_sound c v x h
  | func f => simp [opd] at h; subst h; exact .fn f [] [] [] [] .nil .nil
  | global g =>
    simp only [opd] at h
    cases e:E.glob g with
    | none => simp [e] at h
    | some cs => simp [e] at h; subst h; exact G g cs e
theorem opdL_sound {E:Env} {c n t} {a:Act} (G:GOK E c) (hf:FR c n t a.tmps):∀ {os xs},opdL E t os=some xs → RVs c xs (os.map a.eval)
  | [],xs,h => by simp [opdL] at h; subst h; exact .nil
  | o :: r,xs,h => by
    simp only [opdL] at h
    split at h
    · rename_i v l e1 e2
      cases h
      exact .cons _ _ _ _ (opd_sound G hf e1) (opdL_sound G hf e2)
    · cases h
theorem str_eq {s s':ByteArray}:((s.toList == s'.toList):Bool)=decide ((s.data.toList.map fun b => (b.toNat:Int))=(s'.data.toList.map fun b => (b.toNat:Int))):=by
  rw [ByteArray.toList_eq,ByteArray.toList_eq]
  by_cases e:s.data.toList=s'.data.toList
  · simp [e]
  · have:(s.data.toList == s'.data.toList)=false:=by simpa using e
    rw [this]
    symm
    rw [decide_eq_false_iff_not]
    intro h
    apply e
    have hinj:∀ (a b:List UInt8),(a.map fun b => (b.toNat:Int))=(b.map fun b => (b.toNat:Int)) → a=b:=by
      intro a
      induction a with
      | nil => intro b h; cases b with | nil => rfl | cons => simp at h
      | cons x a ih =>
        intro b h
        cases b with
        | nil => simp at h
        | cons y b =>
          simp only [List.map_cons,List.cons.injEq] at h
          rw [ih b h.2]
          have:x.toNat=y.toNat:=by omega
          rw [UInt8.toNat_inj.1 this]
    exact hinj _ _ h
theorem str_lt:∀ (a b:List UInt8),Op.bytesLess a b=ltI (a.map fun b => (b.toNat:Int)) (b.map fun b => (b.toNat:Int))
  | [],[] => by simp [Op.bytesLess,ltI]
  | _ :: _,[] => by simp [Op.bytesLess,ltI]
  | [],_ :: _ => by simp [Op.bytesLess,ltI]
  | x :: a,y :: b => by
    simp only [Op.bytesLess,ltI,List.map_cons,str_lt a b]
    congr 1
    · by_cases h:x < y
      · have:(x.toNat:Int) < y.toNat:=by have:=UInt8.lt_iff_toNat_lt.1 h; omega
        simp [h,this]
      · have:¬ (x.toNat:Int) < y.toNat:=fun h' => h (UInt8.lt_iff_toNat_lt.2 (by omega))
        simp [h,this]
    · congr 1
      by_cases h:x=y
      · simp [h]
      · have:¬ (x.toNat:Int)=y.toNat:=fun h' => h (UInt8.toNat_inj.1 (by omega))
        have h2:(x == y)=false:=by simpa using h
        simp [h2,this]
def ExtOK (P:Program) (f:FuncId):Prop:=∃ F,P.funcs[f]? = some F ∧ F.body=none ∧ (F.name == "runtime.NumGoroutine")=false ∧ Extern.findNext F=none ∧ Extern.find F=some Extern.BytealgCompare.compare
structure EnvOK (P:Program) (E:Env):Prop where
  ext:∀ f,E.ext f=true → ExtOK P f
  ty:∀ t τ,E.ty t=some τ → TyOK P t τ
  cmp:∀ t τ,E.ty t=some τ → τ.cmp=true → CmpOK P t τ.zero
theorem under_of {P E} (O:EnvOK P E) {t τ} (h:E.ty t=some τ):∃ d,P.underlying t=some d ∧ dOK d τ.d=true:=(O.ty t τ h).desc
theorem under_int {P E} (O:EnvOK P E) {t k a b z m} (h:E.ty t=some ⟨.int k,a,b,z,m⟩):P.underlying t=some (.int k):=by
  obtain ⟨d,h1,h2⟩:=under_of O h
  cases d <;> simp [dOK] at h2
  rw [h1,h2]
theorem under_bool {P E} (O:EnvOK P E) {t a b z m} (h:E.ty t=some ⟨.bool,a,b,z,m⟩):P.underlying t=some .bool:=by
  obtain ⟨d,h1,h2⟩:=under_of O h
  cases d <;> simp [dOK] at h2
  exact h1
theorem under_str {P E} (O:EnvOK P E) {t a b z m} (h:E.ty t=some ⟨.str,a,b,z,m⟩):P.underlying t=some .string:=by
  obtain ⟨d,h1,h2⟩:=under_of O h
  cases d <;> simp [dOK] at h2
  exact h1
theorem under_slice {P E} (O:EnvOK P E) {t e a b z m} (h:E.ty t=some ⟨.slice e,a,b,z,m⟩):P.underlying t=some (.slice e):=by
  obtain ⟨d,h1,h2⟩:=under_of O h
  cases d <;> simp [dOK] at h2
  rw [h1,h2]
theorem under_iface {P E} (O:EnvOK P E) {t e a b z m} (h:E.ty t=some ⟨.iface e,a,b,z,m⟩):∃ ms,P.underlying t=some (.interface ms) ∧ e=ms.isEmpty:=by
  obtain ⟨d,h1,h2⟩:=under_of O h
  cases d <;> simp [dOK] at h2
  exact ⟨_,h1,by simpa using h2⟩
theorem under_arr {P E} (O:EnvOK P E) {t n e a b z m} (h:E.ty t=some ⟨.arr n e,a,b,z,m⟩):P.underlying t=some (.array n e):=by
  obtain ⟨d,h1,h2⟩:=under_of O h
  cases d <;> simp [dOK] at h2
  rw [h1,h2.1,h2.2]
theorem under_strct {P E} (O:EnvOK P E) {t l a b z m} (h:E.ty t=some ⟨.strct l,a,b,z,m⟩):∃ fs:Array Field,P.underlying t=some (.struct fs) ∧ (fs.toList.map fun f => (f.offset,f.type))=l:=by
  obtain ⟨d,h1,h2⟩:=under_of O h
  cases d <;> simp [dOK] at h2
  rename_i fs
  exact ⟨fs,h1,h2⟩
theorem run_size {P E} (O:EnvOK P E) {t τ} (h:E.ty t=some τ) (w:World):(Go.sizeOf t).run P w=.ok τ.size w:=by
  obtain ⟨i,z,h1,h2,_⟩:=(O.ty t τ h).info
  simp [Go.sizeOf,typeInfo,h1,h2]
theorem run_isAgg {P E} (O:EnvOK P E) {t τ} (h:E.ty t=some τ) (w:World):(isAgg t).run P w=.ok τ.d.isAgg w:=by
  obtain ⟨d,h1,h2⟩:=under_of O h
  cases hd:τ.d <;> cases d <;> simp [hd,dOK] at h2 <;> simp [isAgg,run_underlying h1,Ty.isAgg]
theorem run_equal_bool {P:Program} {t:TypeId} (hu:P.underlying t=some .bool) (a b:Bool) (w:World):(Op.equal t (.bool a) (.bool b)).run P w=.ok (a == b) w:=by
  rw [show Op.equal t (.bool a) (.bool b)=Op.equalIn (9999 + 1) t (.bool a) (.bool b) from rfl,Op.equalIn]
  simp [run_underlying hu]
theorem run_equal_nil {P:Program} {t e:TypeId} (hu:P.underlying t=some (.slice e)) (a:Option Addr) (l k m n:Nat) (w:World):(Op.equal t (.slice a l k) (.slice none m n)).run P w=.ok a.isNone w:=by
  rw [show Op.equal t (.slice a l k) (.slice none m n)=Op.equalIn (9999 + 1) t (.slice a l k) (.slice none m n) from rfl,Op.equalIn]
  cases a <;> simp [run_underlying hu]
theorem run_equal_iface {P:Program} {t:TypeId} {ms} (hu:P.underlying t=some (.interface ms)) (t':TypeId) (v:Value) (w:World):(Op.equal t (.iface t' v) .nilIface).run P w=.ok false w:=by
  rw [show Op.equal t (.iface t' v) .nilIface=Op.equalIn (9999 + 1) t (.iface t' v) .nilIface from rfl,Op.equalIn]
  simp [run_underlying hu]
theorem run_equal_nili {P:Program} {t:TypeId} {ms} (hu:P.underlying t=some (.interface ms)) (w:World):(Op.equal t .nilIface .nilIface).run P w=.ok true w:=by
  rw [show Op.equal t .nilIface .nilIface=Op.equalIn (9999 + 1) t .nilIface .nilIface from rfl,Op.equalIn]
  simp [run_underlying hu]
theorem run_guard_nili {P:Program} {t:TypeId} {ms} (hu:P.underlying t=some (.interface ms)) (he:ms.isEmpty=true) (w:World):(Op.eqGuardIn Op.maxDepth t .nilIface .nilIface).run P w=.ok false w:=by
  rw [show Op.eqGuardIn Op.maxDepth t .nilIface .nilIface=Op.eqGuardIn (9999 + 1) t .nilIface .nilIface from rfl,Op.eqGuardIn]
  simp [run_underlying hu,he]
def Comp (P:Program) (c:Cx) (s:Sem Value) (r:AV):Prop:=∃ v,s.run P c.w=.ok v c.w ∧ RV c r v
theorem intOp_sound {P:Program} {c:Cx} {op k a b r t ox oy} (h:intOp op k a b=some r) :
    Comp P c (do eqGuard op t ox oy (.int k a) (.int k b); binOp op t (.int k a) (.int k b)) r:=by
  cases op <;> simp only [intOp] at h <;> (try split at h) <;> simp only [Option.some.injEq,reduceCtorEq] at h <;> subst h
  all_goals
    refine ⟨_,?_,by constructor⟩
    simp [eqGuard,binOp,Op.intArith,Op.intDiv,Op.intBits,Op.intCmp, *]
theorem binA_sound {P E} (O:EnvOK P E) {c:Cx} {op t x y r u v ox oy} (h:binA E op t x y=some r) (hx:RV c x u) (hy:RV c y v) :
    Comp P c (do eqGuard op t ox oy u v; binOp op t u v) r:=by
  unfold binA at h
  split at h
  · cases hx; cases hy
    split at h
    · cases h
    · cases h
      rename_i hb
      refine ⟨_,?_,.int _ _⟩
      simp [eqGuard,binOp,Op.shift,hb]
  · cases hx; cases hy
    split at h
    · cases h
    · cases h
      rename_i hb
      refine ⟨_,?_,.int _ _⟩
      simp [eqGuard,binOp,Op.shift,hb]
  · cases hx; cases hy
    split at h
    · rename_i hk; subst hk
      exact intOp_sound h
    · cases h
  · cases hx; cases hy
    split at h
    · rename_i ht
      cases h
      refine ⟨_,?_,.bool _⟩
      simp [eqGuard,binOp,run_equal_bool (under_bool O ht)]
    · cases h
  · cases hx; cases hy
    split at h
    · rename_i ht
      cases h
      refine ⟨_,?_,.bool _⟩
      simp [eqGuard,binOp,run_equal_bool (under_bool O ht)]
    · cases h
  · cases hx with
    | str _ s e1 => cases hy with
      | str _ s' e2 =>
        subst e1 e2; cases h
        refine ⟨_,?_,.bool _⟩
        simp [eqGuard,binOp,Op.stringOp,str_eq]
  · cases hx with
    | str _ s e1 => cases hy with
      | str _ s' e2 =>
        subst e1 e2; cases h
        refine ⟨_,?_,.bool _⟩
        simp [eqGuard,binOp,Op.stringOp,str_eq]
  · cases hx with
    | str _ s e1 => cases hy with
      | str _ s' e2 =>
        subst e1 e2; cases h
        refine ⟨_,?_,.bool _⟩
        simp [eqGuard,binOp,Op.stringOp,ByteArray.toList_eq,str_lt]
  · cases hx with
    | str _ s e1 => cases hy with
      | str _ s' e2 =>
        subst e1 e2; cases h
        refine ⟨_,?_,.bool _⟩
        simp only [eqGuard,binOp,Op.stringOp,str_eq]
        simp [ByteArray.toList_eq,str_lt]
  · cases hx with
    | str _ s e1 => cases hy with
      | str _ s' e2 =>
        subst e1 e2
        split at h
        · rename_i hl
          cases h
          refine ⟨.string (s ++ s'),?_,.str _ _ ?_⟩
          · simp at hl
            have:¬ ((s.size + s'.size:Nat):Int) > IntKind.i64.max:=by
              have e1:s.size=s.data.size:=rfl
              have e2:s'.size=s'.data.size:=rfl
              simp [IntKind.max,IntKind.signed,IntKind.bits]; omega
            simp only [eqGuard,binOp,Op.stringOp]
            simp only [this,if_false]
            simp
          · simp
        · cases h
  · cases hx with
    | agg _ vs h1 _ => cases hy with
      | agg _ us h2 _ =>
        split at h
        · rename_i τ ht
          split at h
          · rename_i hc
            cases e:eqL _ _ with
            | none => rw [e] at h; cases h
            | some b =>
              rw [e] at h; cases h
              exact ⟨_,(O.cmp t τ ht hc.1 c _ _ vs us b c.w ox oy hc.2 e h1 h2).1,.bool _⟩
          · cases h
        · cases h
  · cases hx with
    | agg _ vs h1 _ => cases hy with
      | agg _ us h2 _ =>
        split at h
        · rename_i τ ht
          split at h
          · rename_i hc
            cases e:eqL _ _ with
            | none => rw [e] at h; cases h
            | some b =>
              rw [e] at h; cases h
              exact ⟨_,(O.cmp t τ ht hc.1 c _ _ vs us b c.w ox oy hc.2 e h1 h2).2,.bool _⟩
          · cases h
        · cases h
  · split at h
    · rename_i ht
      cases h
      refine ⟨_,?_,.bool _⟩
      have hu:=under_slice O ht
      cases hy with
      | slE _ a' _ cap' q1 q2 q3 =>
        have ha':a'=none:=q1.2 rfl
        subst ha'
        cases hx with
        | slE f a _ _ p1 p2 p3 =>
          cases a with
          | none => simp [eqGuard,binOp,run_equal_nil hu,p1.1 rfl]
          | some a =>
            simp at p1
            simp [eqGuard,binOp,run_equal_nil hu,p1]
        | slC => simp [eqGuard,binOp,run_equal_nil hu]
    · cases h
  · split at h
    · rename_i ht
      cases h
      refine ⟨_,?_,.bool _⟩
      have hu:=under_slice O ht
      cases hy with
      | slE _ a' _ cap' q1 q2 q3 =>
        have ha':a'=none:=q1.2 rfl
        subst ha'
        cases hx with
        | slE f a _ _ p1 p2 p3 =>
          cases a with
          | none => simp [eqGuard,binOp,run_equal_nil hu,p1.1 rfl]
          | some a =>
            simp at p1
            simp [eqGuard,binOp,run_equal_nil hu,p1]
        | slC => simp [eqGuard,binOp,run_equal_nil hu]
    · cases h
  · split at h
    · rename_i ht
      cases h
      obtain ⟨ms,hu,_⟩:=under_iface O ht
      refine ⟨_,?_,.bool _⟩
      cases hx; cases hy
      simp [eqGuard,binOp,run_equal_iface hu]
    · cases h
  · split at h
    · rename_i ht
      cases h
      obtain ⟨ms,hu,_⟩:=under_iface O ht
      refine ⟨_,?_,.bool _⟩
      cases hx; cases hy
      simp [eqGuard,binOp,run_equal_iface hu]
    · cases h
  · split at h
    · rename_i ht
      cases h
      obtain ⟨ms,hu,he⟩:=under_iface O ht
      refine ⟨_,?_,.bool _⟩
      cases hx; cases hy
      simp only [eqGuard,binOp]
      simp [run_equal_nili hu,run_guard_nili hu he.symm]
    · cases h
  · split at h
    · rename_i ht
      cases h
      obtain ⟨ms,hu,he⟩:=under_iface O ht
      refine ⟨_,?_,.bool _⟩
      cases hx; cases hy
      simp only [eqGuard,binOp]
      simp [run_equal_nili hu,run_guard_nili hu he.symm]
    · cases h
  · cases h
theorem unA_sound {P:Program} {c:Cx} {op x r u} (h:unA op x=some r) (hx:RV c x u):Comp P c (Op.unary op u) r:=by
  unfold unA at h
  split at h
  · cases hx; cases h; exact ⟨_,by simp [Op.unary],.bool _⟩
  · cases hx; cases h; exact ⟨_,by simp [Op.unary,Op.intArith],.int _ _⟩
  · cases h
end Ab
/- Slices, indexes, fields. Own work, no conditions. -/
set_option linter.unusedVariables false
set_option linter.unusedSimpArgs false
namespace Ab
open Go
theorem rvs_flatMap {c:Cx}:∀ {xs:List AV} {vs:List Value},RVs c xs vs → RVs c (xs.flatMap AV.cells) (vs.flatMap (·.cells.toList))
  | _,_,.nil => .nil
  | _,_,.cons x v xs vs h1 h2 => by
    simp only [List.flatMap_cons]
    exact h1.cells.append (rvs_flatMap h2)
theorem conts_sound (P:Program) {base c} (H:HR base c) {x v ys n} (h:conts c.h x=some (ys,n)) (hv:RV c x v) :
    ∃ vs,RVs c ys vs ∧ (Builtin.lenOf v).run P c.w=.ok n c.w ∧ ∀ sz m,ys.length=n * sz → m ≤ n → ∀ w':World,w'.heap=c.w.heap → (Builtin.firstCells sz m v).run P w'=.ok (vs.take (m * sz)).toArray w':=by
  have hcell:∀ w':World,w'.heap=c.w.heap → ∀ a,w'.cell? a=c.w.cell? a:=fun w' e a => by simp [World.cell?,e]
  unfold conts at h
  split at h
  · cases h
    cases hv with
    | slE f a cap cap' h1 h2 h3 =>
      refine ⟨[],.nil,by simp [Builtin.lenOf],fun sz m _ hm w' hw => ?_⟩
      obtain rfl:m=0:=by simpa using hm
      cases a with
      | none => simp [Builtin.firstCells]
      | some a => simp [Builtin.firstCells,loadCells,loadCellsFrom]
    | slC xs vs b off esz cap cap' hne h1 h2 h3 h4 h5 h6 h7 =>
      refine ⟨vs.flatMap (·.cells.toList),rvs_flatMap h1,by simp [Builtin.lenOf],fun sz m hl hm w' hw => ?_⟩
      have hlen:=(rvs_flatMap h1).length
      have hn:=h1.length
      simp only [Builtin.firstCells]
      refine run_loadCells_at P b off _ w' _ ?_ fun j cell hj => (hcell w' hw _).trans ?_
      · rw [List.length_take,← hlen,hl]
        exact (Nat.min_eq_left (Nat.mul_le_mul_right _ hm)).symm
      · rw [List.getElem?_take] at hj
        split at hj
        · exact h5 j cell hj
        · cases hj
  · split at h
    case h_2 => cases h
    rename_i key off len _ _ o ho
    split at h
    case isFalse => cases h
    rename_i hc
    cases h
    cases hv with
    | ref _ _ _ _ cap' h1 h2 h3 h4 =>
      obtain ⟨vs,a1,a2,a3,a4⟩:=H.cells ho hc.1 off (n * o.esz) hc.2
      refine ⟨vs,a1,by simp [Builtin.lenOf],fun sz m hl hm w' hw => ?_⟩
      have hlen:=a1.length
      simp only [Builtin.firstCells]
      refine run_loadCells_at P _ off _ w' _ ?_ fun j cell hj => (hcell w' hw _).trans ?_
      · rw [List.length_take,← hlen,hl]
        exact (Nat.min_eq_left (Nat.mul_le_mul_right _ hm)).symm
      · rw [List.getElem?_take] at hj
        split at hj
        · exact a4 j cell hj
        · cases hj
  · cases h
    cases hv with
    | str _ s hs =>
      subst hs
      have hsl:(s.data.toList.map fun b => (b.toNat:Int)).length=s.size:=by simp
      rw [hsl]
      refine ⟨s.data.toList.map fun b => .int .u8 b.toNat,?_,by simp [Builtin.lenOf],fun sz m hl hm w' hw => ?_⟩
      · refine .of_get (by simp) fun i x v hx hv => ?_
        simp only [List.getElem?_map,Option.map_map] at hx hv
        cases e:s.data.toList[i]? with
        | none => rw [e] at hx; cases hx
        | some b => rw [e] at hx hv; cases hx; cases hv; exact .int _ _
      · have hsz:m * sz=m:=by
          rcases Nat.eq_zero_or_pos m with h0 | h0
          · subst h0; simp
          · have:sz=1:=by
              simp at hl
              have h1:0 < s.data.size:=by
                have:(List.map (fun b => (b.toNat:Int)) s.data.toList).length=s.data.size:=by simp
                omega
              exact (Nat.eq_of_mul_eq_mul_left h1 ((Nat.mul_one _).trans hl)).symm
            simp [this]
        rw [hsz]
        simp only [Builtin.firstCells,Sem.run_pure]
        congr 1
        apply Array.ext'
        simp [ByteArray.data_extract,List.map_take,List.take_take]
  · cases h
theorem convA_go {c:Cx}:∀ {ys:List AV} {l:List Int} {vs:List Value},convA.go ys=some l → RVs c ys vs → vs=l.map (Value.int .u8) ∧ ∀ n ∈ l,0 ≤ n ∧ n < 256
  | [],l,vs,h,hv => by
    simp [convA.go] at h; subst h
    cases hv; simp
  | y :: ys,l,vs,h,hv => by
    unfold convA.go at h
    split at h
    · rename_i h0; cases h0
    · rename_i n r heq
      cases heq
      split at h
      · rename_i hn
        cases e:convA.go ys with
        | none => rw [e] at h; cases h
        | some l' =>
          rw [e] at h; cases h
          cases hv with
          | cons _ v _ vs h1 h2 =>
            cases h1
            obtain ⟨a1,a2⟩:=convA_go e h2
            exact ⟨by simp [a1],fun m hm => by
              rcases List.mem_cons.1 hm with rfl | hm
              · exact hn
              · exact a2 m hm⟩
      · cases h
    · cases h
theorem strOfNums_toNat (l:List Int) (h:∀ n ∈ l,0 ≤ n ∧ n < 256):((Go.strOfNums l).data.toList.map fun b => (b.toNat:Int))=l:=by
  unfold Go.strOfNums
  simp only [List.map_map]
  conv => rhs; rw [← List.map_id l]
  refine List.map_congr_left fun n hn => ?_
  have:=h n hn
  simp only [Function.comp,id,UInt8.toNat_ofNat']
  omega
theorem convA_sound {P E} (O:EnvOK P E) {base c} (H:HR base c) {src dst x r v} (h:convA E src dst x c.h=some r) (hv:RV c x v):Comp P c (convert src dst v) r:=by
  unfold convA at h
  split at h
  · rename_i hs hd
    cases h; cases hv
    obtain ⟨d,hd1,_⟩:=under_of O hs
    refine ⟨_,?_,.int _ _⟩
    simp only [convert,Sem.run_bind,run_underlying hd1,run_underlying (under_int O hd),Result.andThen_ok]
    cases d <;> simp [Conv.intToInt]
  · rename_i e _ _ _ _ _ _ _ _ _ hs hd
    have hs':=under_slice O hs
    have hd':=under_str O hd
    split at h
    case h_2 => cases h
    rename_i he
    have he':=under_int O he
    split at h
    · cases h
    · rename_i hns
      split at h
      case h_2 => cases h
      rename_i cs n hcs
      split at h
      case isFalse => cases h
      rename_i hcn
      cases hg:convA.go cs with
      | none => rw [hg] at h; cases h
      | some l =>
        rw [hg] at h; cases h
        obtain ⟨vs,a1,a2,a3⟩:=conts_sound P H hcs hv
        have hlen:=a1.length
        obtain ⟨g1,g2⟩:=convA_go hg a1
        have hll:l.length=n:=by rw [← hcn,hlen,g1]; simp
        have hf:=a3 1 n (by omega) (Nat.le_refl n) c.w rfl
        cases v with
        | slice a m cap =>
          have hmn:m=n:=by simpa [Builtin.lenOf] using a2
          subst hmn
          cases a with
          | none =>
            have h0:m=0:=by
              cases hv with
              | slE => rfl
            subst h0
            have:l=[]:=List.eq_nil_of_length_eq_zero hll
            subst this
            exact ⟨_,run_convert_bytes_nil c.w src _ hs' he' _ _ dst hd',.str _ _ rfl⟩
          | some a =>
            refine ⟨.string (Go.strOfNums l),?_,.str _ _ (strOfNums_toNat l g2)⟩
            simp only [Builtin.firstCells,Nat.mul_one] at hf
            rw [run_convert_bytes_string c.w src dst _ _ m cap hs' he' hd',run_bytesToString c.w _ m cap l ?_]
            · simp only [foldl_push_bytes,Go.strOfNums]
              simp [ByteArray.empty,ByteArray.emptyWithCapacity]
              rfl
            · rw [hf,List.take_of_length_le (by omega),g1]
        | string s =>
          exfalso
          cases hv with
          | str _ _ e1 => exact hns _ rfl
        | _ => cases hv <;> simp [Builtin.lenOf] at a2
  · rename_i hs hd
    cases h
    cases hv with
    | str _ s e1 =>
      obtain ⟨d,hd1,_⟩:=under_of O hs
      refine ⟨.string s,?_,.str _ _ e1⟩
      simp only [convert,Sem.run_bind,run_underlying hd1,run_underlying (under_str O hd),Result.andThen_ok]
      cases d <;> simp
  · cases h
theorem range_find (p:Nat → Bool) (n:Nat):(List.range (n + 1)).find? p=if p 0 then some 0 else ((List.range n).find? fun i => p (i + 1)).map (· + 1):=by
  rw [List.range_succ_eq_map,List.find?_cons]
  cases p 0 with
  | true => rfl
  | false => simp [List.find?_map,Function.comp_def]
def cmpU (l m:List UInt8):Int :=
  match (List.range (min l.length m.length)).find? fun i => l[i]! != m[i]! with
  | some i => if l[i]! < m[i]! then -1 else 1
  | none => if l.length < m.length then -1 else if l.length > m.length then 1 else 0
theorem cmpU_eq:∀ l m:List UInt8,cmpU l m=cmpI (l.map fun b => (b.toNat:Int)) (m.map fun b => (b.toNat:Int))
  | [],[] => rfl
  | [],_ :: _ => by simp [cmpU,cmpI]
  | _ :: _,[] => by simp [cmpU,cmpI]
  | a :: l,b :: m => by
    have ih:=cmpU_eq l m
    unfold cmpU at ih ⊢
    have hm:min (a :: l).length (b :: m).length=min l.length m.length + 1:=by simp only [List.length_cons]; omega
    rw [hm,range_find]
    simp only [List.map_cons,cmpI]
    by_cases e:a=b
    · subst e
      simp only [List.getElem!_cons_zero,bne_self_eq_false,Bool.false_eq_true,if_false,if_true,List.getElem!_cons_succ]
      rw [← ih]
      cases (List.range (min l.length m.length)).find? fun i => l[i]! != m[i]! with
      | none => simp
      | some i => simp
    · have h1:(a != b)=true:=by simpa using e
      have h2:¬ ((a.toNat:Int)=b.toNat):=fun h => e (UInt8.toNat_inj.1 (by omega))
      simp only [List.getElem!_cons_zero,h1,if_true,h2,if_false]
      by_cases h:a < b
      · have:(a.toNat:Int) < b.toNat:=by have:=UInt8.lt_iff_toNat_lt.1 h; omega
        simp [h,this]
      · have:¬ (a.toNat:Int) < b.toNat:=fun h' => h (UInt8.lt_iff_toNat_lt.2 (by omega))
        simp [h,this]
theorem ba_get (a:ByteArray) (i:Nat):a[i]! = a.data.toList[i]!:=by
  by_cases h:i < a.size
  · have h2:i < a.data.toList.length:=by simpa using h
    rw [getElem!_pos a i h,getElem!_pos a.data.toList i h2]
    simp [ByteArray.getElem_eq_getElem_data]
  · have h2:¬ i < a.data.toList.length:=by simpa using h
    rw [getElem!_neg a i h,getElem!_neg a.data.toList i h2]
theorem cmp_bytes (a b:ByteArray):Extern.BytealgCompare.cmp a b=cmpI (a.data.toList.map fun b => (b.toNat:Int)) (b.data.toList.map fun b => (b.toNat:Int)):=by
  rw [← cmpU_eq]
  unfold Extern.BytealgCompare.cmp cmpU
  have e1:a.size=a.data.toList.length:=by simp
  have e2:b.size=b.data.toList.length:=by simp
  simp only [ba_get,e1,e2]
  rfl
theorem run_loadBytes {P:Program} {b:Nat}:∀ (l:List Int) (off:Nat) (acc:ByteArray) (w:World),(∀ i n,l[i]? = some n → w.cell? ⟨b,off + i,none⟩=some (.int .u8 n)) →
    (Extern.Bytes.loadBytes ⟨b,off,none⟩ l.length acc).run P w=.ok ⟨acc.data ++ (l.map fun n => n.toNat.toUInt8).toArray⟩ w
  | [],off,acc,w,h => by simp [Extern.Bytes.loadBytes]
  | n :: l,off,acc,w,h => by
    have h0:=h 0 n rfl
    simp only [Nat.add_zero] at h0
    have hadd:(⟨b,off,none⟩:Addr).add 1=⟨b,off + 1,none⟩:=by unfold Addr.add; split <;> simp_all
    have ih:=run_loadBytes (P:=P) l (off + 1) (acc.push n.toNat.toUInt8) w fun i m hm => by
      have:=h (i + 1) m (by simpa using hm)
      rwa [show off + (i + 1)=off + 1 + i by omega] at this
    simp only [List.length_cons,Extern.Bytes.loadBytes,Sem.run_bind,hadd,load,Sem.run,h0]
    simp only [Result.andThen]
    rw [ih]
    congr 2
    simp [ByteArray.push]
theorem bytesOf_sound {P:Program} {base c f xs cap v l} (H:HR base c) (hv:RV c (.sl f xs cap) v) (hg:convA.go xs=some l) :
    ∃ b:ByteArray,(Extern.Bytes.bytesOf v).run P c.w=.ok b c.w ∧ (b.data.toList.map fun b => (b.toNat:Int))=l:=by
  cases hv with
  | slE f a cap cap' h1 h2 h3 =>
    simp [convA.go] at hg
    subst hg
    cases a with
    | none => exact ⟨.empty,by simp [Extern.Bytes.bytesOf],rfl⟩
    | some a => exact ⟨.empty,by simp [Extern.Bytes.bytesOf,Extern.Bytes.loadBytes],rfl⟩
  | slC _ vs b off esz cap cap' hne h hv hp hb hc hl hcap =>
    obtain ⟨g1,g2⟩:=convA_go hg h
    have hlen:l.length=xs.length:=by rw [h.length,g1]; simp
    have hcell:∀ i n,l[i]? = some n → c.w.cell? ⟨b,off + i,none⟩=some (.int .u8 n):=by
      intro i n hi
      refine hc i _ ?_
      rw [g1]
      have:∀ q:List Int,(q.map (Value.int .u8)).flatMap (fun v => v.cells.toList)=q.map (Value.int .u8):=by
        intro q
        induction q with
        | nil => rfl
        | cons x q ih => rw [List.map_cons,List.flatMap_cons,ih]; rfl
      rw [this,List.getElem?_map,hi]; rfl
    have:=run_loadBytes (P:=P) l off .empty c.w hcell
    refine ⟨_,by simp only [Extern.Bytes.bytesOf]; rw [← hlen]; exact this,?_⟩
    have e:∀ q:List Int,(∀ n ∈ q,0 ≤ n ∧ n < 256) → (q.map fun n => n.toNat.toUInt8).map (fun b => (b.toNat:Int))=q:=by
      intro q
      induction q with
      | nil => intro _; rfl
      | cons x q ih =>
        intro hq
        have h1:=hq x (by simp)
        simp only [List.map_cons,ih fun n hn => hq n (by simp [hn])]
        congr 1
        have:x.toNat.toUInt8.toNat=x.toNat:=by
          rw [Nat.toUInt8_eq,UInt8.toNat_ofNat']
          omega
        rw [this]; omega
    have:=e l g2
    have h0:ByteArray.empty.data = #[]:=rfl
    rw [h0]
    simpa using this
theorem compare_two (u v:Value):Extern.BytealgCompare.compare ⟨[u,v]⟩=(do pure (goInt (Extern.BytealgCompare.cmp (← Extern.Bytes.bytesOf u) (← Extern.Bytes.bytesOf v)))):=rfl
end Ab
/- Slices, indexes, fields, composites. Own work, no conditions. -/
set_option linter.unusedVariables false
set_option linter.unusedSimpArgs false
namespace Ab
open Go
inductive ORV (c:Cx):Option AV → Option Value → Prop
  | none:ORV c none none
  | some (x v):RV c x v → ORV c (some x) (some v)
theorem bound_run (P:Program) {c:Cx} {x:AV} {v:Value} (y:Nat) (code:BoundsCode) (hv:RV c x v) {n:Nat} (h:numA (some x)=some (some n)) (hn:n ≤ y) (w:World):(Instr.sliceBound v y code).run P w=.ok n w:=by
  cases hv <;> simp only [numA,reduceCtorEq] at h
  split at h
  · rename_i k m hm
    simp only [Option.some.injEq] at h
    subst h
    have:0 ≤ m ∧ m ≤ (y:Int):=⟨hm,by omega⟩
    simp [Instr.sliceBound,asIntOf,this]
  · cases h
theorem bounds_run (P:Program) {c:Cx} {lo hi mx:Option AV} {vlo vhi vmx:Option Value} (isS:Bool) {len cap':Nat} {cap:Option Nat} (hcap:∀ q,cap=some q → cap'=q) (hlc:len ≤ cap')
    (h1:ORV c lo vlo) (h2:ORV c hi vhi) (h3:ORV c mx vmx) {l h o} (hb:boundsA len cap lo hi mx=some (l,h,o)) (w:World) :
    ∃ m',(Instr.sliceBounds isS len cap' vlo vhi vmx).run P w=.ok (l,h,m') w ∧ h ≤ m' ∧ l ≤ h ∧ (∀ q,o=some q → m' - l=q) ∧ m' ≤ cap' ∧ (o=none → cap=none ∧ m'=cap'):=by
  unfold boundsA at hb
  cases e1:numA lo with
  | none => simp [e1] at hb
  | some rl =>
  cases e2:numA hi with
  | none => simp [e1,e2] at hb
  | some rh =>
  cases e3:numA mx with
  | none => simp [e1,e2,e3] at hb
  | some rm =>
  simp only [e1,e2,e3,boundsB] at hb
  have fits:∀ n:Nat,fitsA len cap n=true → n ≤ cap':=by
    intro n hn
    unfold fitsA at hn
    cases cap with
    | none => simp at hn; omega
    | some q => have:=hcap q rfl; simp at hn; omega
  cases rm with
  | some m =>
    simp only at hb
    split at hb
    case isFalse => cases hb
    rename_i hc
    obtain ⟨hs,hfm,hhm,hlh⟩:=hc
    cases hb
    cases h3 with
    | none => simp [numA] at e3
    | some xm vm hxm =>
    cases h2 with
    | none => simp [numA] at e2; subst e2; simp at hs
    | some xh vh hxh =>
    obtain ⟨nh,rfl⟩:=Option.isSome_iff_exists.1 hs
    refine ⟨m,?_,by simpa using hhm,hlh,by simp,fits m hfm,by simp⟩
    unfold Instr.sliceBounds
    simp only [Sem.run_bind,bound_run P cap' _ hxm e3 (fits m hfm) w,Result.andThen_ok,bound_run P m _ hxh e2 (by simpa using hhm) w]
    cases h1 with
    | none => simp [numA] at e1; subst e1; simp
    | some xl vl hxl =>
      cases rl with
      | none => cases xl <;> simp [numA] at e1
      | some nl => simp [bound_run P nh _ hxl e1 (by simpa using hlh) w]
  | none =>
    simp only at hb
    split at hb
    case isFalse => cases hb
    rename_i hc
    cases hb
    cases h3 with
    | some xm vm hxm => cases xm <;> simp [numA] at e3
    | none =>
    refine ⟨cap',?_,fits _ hc.1,hc.2,?_,Nat.le_refl _,fun h => ⟨by cases cap <;> simp_all,rfl⟩⟩
    · unfold Instr.sliceBounds
      simp only [Sem.run_bind,Sem.run_pure,Result.andThen_ok]
      cases h2 with
      | none =>
        simp [numA] at e2; subst e2
        simp only [Option.getD_none] at hc
        simp only [Sem.run_pure,Result.andThen_ok,Option.getD_none]
        cases h1 with
        | none => simp [numA] at e1; subst e1; simp
        | some xl vl hxl =>
          cases rl with
          | none => cases xl <;> simp [numA] at e1
          | some nl => simp [bound_run P len _ hxl e1 (by simpa using hc.2) w]
      | some xh vh hxh =>
        cases rh with
        | none => cases xh <;> simp [numA] at e2
        | some nh =>
          simp only [Option.getD_some] at hc
          simp only [bound_run P cap' _ hxh e2 (fits nh hc.1) w,Result.andThen_ok,Option.getD_some]
          cases h1 with
          | none => simp [numA] at e1; subst e1; simp [bound_run P cap' _ hxh e2 (fits nh hc.1)]
          | some xl vl hxl =>
            cases rl with
            | none => cases xl <;> simp [numA] at e1
            | some nl => simp [bound_run P cap' _ hxh e2 (fits nh hc.1),bound_run P nh _ hxl e1 (by simpa using hc.2) w]
    · intro q hq
      cases cap with
      | none => simp at hq
      | some k => simp at hq; have:=hcap k rfl; omega
theorem rvs_pure_take {xs:List AV} (h:∀ x ∈ xs,x.pure=true) (a b:Nat):∀ x ∈ (xs.take b).drop a,x.pure=true :=
  fun x hx => h x (List.mem_of_mem_take (List.mem_of_mem_drop hx))
theorem flat_drop {vs:List Value} {sz:Nat} (h:∀ v ∈ vs,v.cells.size=sz) (l:Nat):(vs.drop l).flatMap (·.cells.toList)=(vs.flatMap (·.cells.toList)).drop (l * sz):=by
  induction l generalizing vs with
  | zero => simp
  | succ l ih =>
    cases vs with
    | nil => simp
    | cons v r =>
      have hv:=h v (by simp)
      rw [List.drop_succ_cons,ih fun u hu => h u (by simp [hu]),List.flatMap_cons,List.drop_append]
      have e:(l + 1) * sz=sz + l * sz:=by rw [Nat.add_mul,Nat.one_mul,Nat.add_comm]
      rw [e,Array.length_toList,hv,List.drop_of_length_le (l:=v.cells.toList) (by rw [Array.length_toList,hv]; omega)]
      simp
theorem flat_take {vs:List Value} {sz:Nat} (h:∀ v ∈ vs,v.cells.size=sz) (l:Nat):(vs.take l).flatMap (·.cells.toList)=(vs.flatMap (·.cells.toList)).take (l * sz):=by
  induction l generalizing vs with
  | zero => simp
  | succ l ih =>
    cases vs with
    | nil => simp
    | cons v r =>
      have hv:=h v (by simp)
      have e:(l + 1) * sz=sz + l * sz:=by rw [Nat.add_mul,Nat.one_mul,Nat.add_comm]
      rw [List.take_succ_cons,List.flatMap_cons,ih fun u hu => h u (by simp [hu]),List.flatMap_cons,e,List.take_append,Array.length_toList,hv,
        List.take_of_length_le (l:=v.cells.toList) (by rw [Array.length_toList,hv]; omega)]
      simp
theorem addr_add (b o n:Nat):(⟨b,o,none⟩:Addr).add n=⟨b,o + n,none⟩:=by unfold Addr.add; split <;> simp_all
theorem sliceA_sound {P E} (O:EnvOK P E) {base c} (H:HR base c) {t x lo hi mx v vlo vhi vmx r} (h:sliceA E t x lo hi mx c.h=some r) (hv:RV c x v) (h1:ORV c lo vlo) (h2:ORV c hi vhi) (h3:ORV c mx vmx) :
    Comp P c (Instr.sliceAt t v vlo vhi vmx) r:=by
  unfold sliceA at h
  split at h
  · rename_i e _ _ _ _ f xs cap ht
    have hu:=under_slice O ht
    split at h
    case h_2 => cases h
    rename_i l hh o τ hb he
    split at h
    case isFalse => cases h
    rename_i hc
    cases h
    have hlc:∃ a cap',v=.slice a xs.length cap' ∧ xs.length ≤ cap' ∧ (∀ q,cap=some q → cap'=q) ∧ (a=none ↔ f=true) ∧ (f=true → cap'=0):=by
      cases hv with
      | slE f a cap cap' g1 g2 g3 => exact ⟨a,cap',rfl,Nat.zero_le _,g3,g1,g2⟩
      | slC xs vs b off esz cap cap' g0 g1 g2 g3 g4 g5 g6 g7 => exact ⟨_,cap',rfl,g6,g7,by simp,by simp⟩
    obtain ⟨a,cap',rfl,hlc,hcap,haf,hf0⟩:=hlc
    obtain ⟨m',b1,b2,b3,b4,b5,b6⟩:=bounds_run P true hcap hlc h1 h2 h3 hb c.w
    refine ⟨.slice (if m'=l then a else a.map (·.add (l * τ.size))) (hh - l) (m' - l),?_,?_⟩
    · simp only [Instr.sliceAt,Sem.run_bind,run_underlying hu,Result.andThen_ok]
      simp only [Instr.slice,Sem.run_bind,run_underlying hu,Result.andThen_ok,b1,run_size O he,Sem.run_pure]
    · have hlen:((xs.take hh).drop l).length=hh - l:=by simp; omega
      have hnone:(if m'=l then a else a.map (·.add (l * τ.size)))=none ↔ f=true:=by split <;> simp [haf]
      by_cases e0:hh=l
      · have:(xs.take hh).drop l=[]:=List.eq_nil_of_length_eq_zero (by omega)
        rw [this,e0,Nat.sub_self]
        exact .slE f _ o _ hnone (fun hf => by have:=hf0 hf; omega) b4
      · cases hv with
        | slE _ _ _ _ => exfalso; simp at hc; omega
        | slC _ vs b off esz _ _ g0 g1 g2 g3 g4 g5 g6 g7 =>
          have hne:(xs.take hh).drop l ≠ []:=fun e => by rw [e] at hlen; simp at hlen; omega
          rw [if_neg (by omega),Option.map_some,addr_add,← hlen]
          have hvl:=g1.length
          have hsz:l * τ.size=l * esz:=by
            rcases hc.2 with h0 | h0 | h0
            · simp [h0]
            · exact absurd h0 e0
            · cases ex:xs[l]? with
              | none => rw [ex] at h0; cases h0
              | some x =>
                rw [ex] at h0
                obtain ⟨u,q1,q2⟩:=g1.get ex
                have:=q2.cells_size
                rw [g2 u (List.mem_of_getElem? q1)] at this
                simp at h0
                rw [this,h0]
          rw [hsz]
          have hvs2:∀ v ∈ vs.take hh,v.cells.size=esz:=fun v hv => g2 v (List.mem_of_mem_take hv)
          refine .slC _ ((vs.take hh).drop l) b (off + l * esz) esz o _ hne ((g1.take hh).drop l) (fun v hv => hvs2 v (List.mem_of_mem_drop hv)) (rvs_pure_take g3 l hh) g4 (fun i cell hi => ?_) (by rw [hlen]; omega) b4
          rw [flat_drop hvs2,flat_take g2,List.getElem?_drop,List.getElem?_take] at hi
          split at hi
          · rw [Nat.add_assoc]; exact g5 _ _ hi
          · cases hi
  · rename_i e _ _ _ _ key off len cap ht
    have hu:=under_slice O ht
    split at h
    case h_2 => cases h
    rename_i l hh o ob τ hb hk he
    split at h
    case isFalse => cases h
    rename_i hc
    cases hv with
    | ref _ _ _ _ cap' g1 g2 g3 g4 =>
    obtain ⟨m',b1,b2,b3,b4,b5,b6⟩:=bounds_run P true g3 g2 h1 h2 h3 hb c.w
    refine ⟨.slice (if m'=l then some ⟨c.mu key,off,none⟩ else some ⟨c.mu key,off + l * τ.size,none⟩) (hh - l) (m' - l),?_,?_⟩
    · simp only [Instr.sliceAt,Sem.run_bind,run_underlying hu,Result.andThen_ok]
      simp only [Instr.slice,Sem.run_bind,run_underlying hu,Result.andThen_ok,b1,run_size O he,Sem.run_pure,Option.map_some,addr_add]
    · split at h
      · rename_i h0
        cases h
        rw [h0.1,Nat.sub_self]
        exact .slE false _ o _ (by split <;> simp) (by simp) b4
      · rename_i h0
        split at h
        · cases h
        · rename_i h00
          cases h
          have:m' ≠ l:=by
            intro e
            cases o with
            | some q => have:=b4 q rfl; exact h00 (by rw [← this,e,Nat.sub_self])
            | none => exact h0 ⟨by omega,.inl rfl⟩
          rw [if_neg this,hc.1]
          refine .ref key _ _ o _ g1 (by omega) b4 fun ho h0 => ?_
          obtain ⟨hcap,hm⟩:=b6 ho
          have hl0:l * ob.esz=0:=by omega
          have hl:l=0:=by rcases Nat.mul_eq_zero.1 hl0 with h | h; exact h; omega
          rw [hm,hl,Nat.sub_zero]
          exact g4 hcap (by omega)
  · rename_i n e _ _ _ _ key off ht
    have hu:=under_arr O ht
    split at h
    case h_2 => cases h
    rename_i l hh o τ hb he
    split at h
    case h_2 => cases h
    rename_i ob hk
    split at h
    case isFalse => cases h
    rename_i hc
    cases hv with
    | ptr _ _ g1 =>
    obtain ⟨m',b1,b2,b3,b4,b5,b6⟩:=bounds_run P false (cap:=some n) (cap':=n) (by simp) (Nat.le_refl n) h1 h2 h3 hb c.w
    refine ⟨.slice (some (if m'=l then ⟨c.mu key,off,none⟩ else ⟨c.mu key,off + l * τ.size,none⟩)) (hh - l) (m' - l),?_,?_⟩
    · simp only [Instr.sliceAt,Sem.run_bind,run_underlying hu,Result.andThen_ok,Instr.sureAddr,b1,run_size O he,Sem.run_pure,addr_add]
    · have ho:o=some (m' - l):=by
        cases o with
        | some q => rw [b4 q rfl]
        | none => exact absurd (b6 rfl).1 (by simp)
      split at h
      · rename_i h0
        cases h
        have hz:m' - l=0:=by rw [ho] at h0; exact Option.some.inj h0
        have:hh - l=0:=by omega
        rw [this]
        exact .slE false _ o _ (by simp) (by simp) b4
      · rename_i h0
        cases h
        have:m' ≠ l:=fun e => h0 (by rw [ho,e,Nat.sub_self])
        rw [if_neg this]
        exact .ref key _ _ o _ g1 (by omega) b4 (by rw [ho]; simp)
  · rename_i n e _ _ _ _ cs ht
    have hu:=under_arr O ht
    split at h
    case h_2 => cases h
    rename_i l hh o τ hb he
    split at h
    case isFalse => cases h
    rename_i hc
    cases h
    cases hv with
    | pel _ vs b off g1 g2 g3 g4 g5 =>
    obtain ⟨m',b1,b2,b3,b4,b5,b6⟩:=bounds_run P false (cap:=some n) (cap':=n) (by simp) (Nat.le_refl n) h1 h2 h3 hb c.w
    refine ⟨.slice (some (if m'=l then ⟨b,off,none⟩ else ⟨b,off + l * τ.size,none⟩)) (hh - l) (m' - l),?_,?_⟩
    · simp only [Instr.sliceAt,Sem.run_bind,run_underlying hu,Result.andThen_ok,Instr.sureAddr,b1,run_size O he,Sem.run_pure,addr_add]
    · have hlen:((cs.take hh).drop l).length=hh - l:=by simp; omega
      by_cases e0:hh=l
      · have:(cs.take hh).drop l=[]:=List.eq_nil_of_length_eq_zero (by omega)
        rw [this,e0,Nat.sub_self]
        exact .slE false _ o _ (by simp) (by simp) b4
      · have hne:(cs.take hh).drop l ≠ []:=fun e => by rw [e] at hlen; simp at hlen; omega
        rw [if_neg (by omega),← hlen,hc.1,Nat.mul_one]
        have hcell:∀ v ∈ (vs.take hh).drop l,v.cells.toList=[v]:=by
          intro v hv
          obtain ⟨i,hi⟩:=List.mem_iff_getElem?.1 (List.mem_of_mem_take (List.mem_of_mem_drop hv))
          have hlt:=(List.getElem?_eq_some_iff.1 hi).1
          have hx:cs[i]? = some (cs[i]'(by rw [g1.length]; exact hlt)):=List.getElem?_eq_getElem _
          obtain ⟨v',q1,q2⟩:=g1.get hx
          rw [hi] at q1; cases q1
          exact cells_scal q2 (g2 _ (List.getElem_mem _))
        have hflat:∀ l:List Value,(∀ v ∈ l,v.cells.toList=[v]) → l.flatMap (·.cells.toList)=l:=by
          intro l
          induction l with
          | nil => simp
          | cons v r ih => intro hl; rw [List.flatMap_cons,hl v (by simp),ih fun u hu => hl u (by simp [hu])]; rfl
        refine .slC _ ((vs.take hh).drop l) b (off + l) 1 o _ hne ((g1.take hh).drop l) (fun v hv => by rw [← Array.length_toList,hcell v hv]; rfl) (rvs_pure_take g3 l hh) g4 (fun i cell hi => ?_) (by rw [hlen]; omega) b4
        rw [hflat _ hcell,List.getElem?_drop,List.getElem?_take] at hi
        split at hi
        · rw [Nat.add_assoc]; exact g5 _ _ hi
        · cases hi
  · rename_i _ _ _ _ l ht
    have hu:=under_str O ht
    split at h
    case h_2 => cases h
    rename_i a b o hb
    cases h
    cases h3
    cases hv with
    | str _ s g1 =>
    subst g1
    have hsl:(s.data.toList.map fun b => (b.toNat:Int)).length=s.size:=by simp
    rw [hsl] at hb
    obtain ⟨m',b1,b2,b3,b4,b5,b6⟩:=bounds_run P false (cap:=some s.size) (cap':=s.size) (by simp) (Nat.le_refl _) h1 h2 .none hb c.w
    refine ⟨.string (s.extract a b),?_,.str _ _ ?_⟩
    · simp only [Instr.sliceAt,Sem.run_bind,run_underlying hu,Result.andThen_ok]
      simp [Instr.slice,Sem.run_bind,run_underlying hu,Result.andThen_ok,b1,Sem.run_pure]
    · rw [ByteArray.data_extract]
      simp [List.map_drop,List.map_take]
      rw [List.drop_take]
  · cases h
end Ab
/- Addresses, parts, composites. Own work, no conditions. -/
set_option linter.unusedVariables false
set_option linter.unusedSimpArgs false
namespace Ab
open Go
theorem mk1_sound {P E} (O:EnvOK P E) {c:Cx} {t τ cs r vs} (ht:E.ty t=some τ) (h:TyI.mk1 τ cs=some r) (hv:RVs c cs vs) (hs:∀ x ∈ cs,x.scal=true) :
    RV c r (if τ.d.isAgg then .agg ⟨vs⟩ else vs.getD 0 undef) ∧ vs.length=τ.size ∧ (τ.d.isAgg=false → vs.length=1):=by
  unfold TyI.mk1 at h
  split at h
  case isFalse => cases h
  rename_i hl
  have:=hv.length
  split at h
  · rename_i ha
    cases h
    rw [if_pos ha]
    exact ⟨.agg _ _ hv hs,by omega,fun hf => by rw [ha] at hf; cases hf⟩
  · rename_i ha
    rw [if_neg ha]
    split at h
    · cases h
      cases hv with
      | cons _ v _ vs h1 h2 => cases h2; exact ⟨by simpa using h1,by simpa using hl,fun _ => rfl⟩
    · cases h
theorem indexAddr_sound {P E} (O:EnvOK P E) {base c} (H:HR base c) {t x i r v vi} (h:indexAddrA E t x i c.h=some r) (hv:RV c x v) (hi:RV c i vi):Comp P c (Instr.indexAt t v vi) r:=by
  unfold indexAddrA at h
  split at h
  case h_2 => cases h
  rename_i ik i
  cases hi
  split at h
  · rename_i e _ _ _ _ xs _ ht
    have hu:=under_slice O ht
    split at h
    case isFalse => cases h
    rename_i hib
    split at h
    case h_2 => cases h
    rename_i x τ hx he
    split at h
    case isFalse => cases h
    rename_i hsz
    obtain ⟨hsz,hscal⟩:=hsz
    cases h
    cases hv with
    | slE => simp at hx
    | slC _ vs b off esz cap cap' g0 g1 g2 g3 g4 g5 g6 g7 =>
      obtain ⟨u,q1,q2⟩:=g1.get hx
      have hesz:esz=τ.size:=by rw [← g2 u (List.mem_of_getElem? q1),q2.cells_size,hsz]
      subst hesz
      refine ⟨.pointer (some ⟨b,off + i.toNat * τ.size,none⟩),?_,?_⟩
      · simp [Instr.indexAt,asIntOf,run_underlying hu,hib,run_size O he,addr_add]
      · refine .pel _ u.cells.toList b _ q2.cells (List.all_eq_true.1 hscal) (fun y hy => ?_) g4 (fun j cell hj => ?_)
        · have:=g3 x (List.mem_of_getElem? hx)
          cases x <;> simp only [AV.cells,List.mem_singleton] at hy <;> (try (subst hy; exact this))
          simp only [AV.pure] at this
          exact (AV.pureL_all _).1 this y hy
        · have hlt:j < τ.size:=by
            have:=(List.getElem?_eq_some_iff.1 hj).1
            rw [Array.length_toList,g2 u (List.mem_of_getElem? q1)] at this; exact this
          have:=g5 (i.toNat * τ.size + j) cell ?_
          · rwa [← Nat.add_assoc] at this
          · have h2:=flat_drop g2 i.toNat
            have h3:(vs.drop i.toNat).flatMap (·.cells.toList)=u.cells.toList ++ (vs.drop (i.toNat + 1)).flatMap (·.cells.toList):=by
              have hlt2:=(List.getElem?_eq_some_iff.1 q1).1
              rw [List.drop_eq_getElem_cons hlt2,List.flatMap_cons]
              rw [(List.getElem?_eq_some_iff.1 q1).2]
            rw [← List.getElem?_drop,← h2,h3,List.getElem?_append_left (List.getElem?_eq_some_iff.1 hj).1,hj]
  · rename_i e _ _ _ _ key off len _ ht
    have hu:=under_slice O ht
    split at h
    case h_2 => cases h
    rename_i τ he
    split at h
    case isFalse => cases h
    rename_i hib
    cases h
    cases hv with
    | ref _ _ _ _ cap' g1 g2 g3 g4 =>
    exact ⟨.pointer (some ⟨c.mu key,off + i.toNat * τ.size,none⟩),by simp [Instr.indexAt,asIntOf,run_underlying hu,hib,run_size O he,addr_add],.ptr key _ g1⟩
  · rename_i n e _ _ _ _ key off ht
    have hu:=under_arr O ht
    split at h
    case h_2 => cases h
    rename_i τ he
    split at h
    case isFalse => cases h
    rename_i hib
    cases h
    cases hv with
    | ptr _ _ g1 =>
    exact ⟨.pointer (some ⟨c.mu key,off + i.toNat * τ.size,none⟩),by simp [Instr.indexAt,asIntOf,run_underlying hu,hib,run_size O he,addr_add,Instr.sureAddr],.ptr key _ g1⟩
  · rename_i n e _ _ _ _ cs ht
    have hu:=under_arr O ht
    split at h
    case h_2 => cases h
    rename_i τ he
    split at h
    case isFalse => cases h
    rename_i hib
    cases h
    cases hv with
    | pel _ vs b off g1 g2 g3 g4 g5 =>
    refine ⟨.pointer (some ⟨b,off + i.toNat * τ.size,none⟩),by simp [Instr.indexAt,asIntOf,run_underlying hu,hib,run_size O he,addr_add,Instr.sureAddr],?_⟩
    exact .pel _ (vs.drop _) b _ (g1.drop _) (fun x hx => g2 x (List.mem_of_mem_drop hx)) (fun x hx => g3 x (List.mem_of_mem_drop hx)) g4 (fun j cell hj => by
      rw [List.getElem?_drop] at hj
      rw [Nat.add_assoc]; exact g5 _ _ hj)
  · cases h
theorem fields_get {fs:Array Field} {l:List (Nat × TypeId)} (e:(fs.toList.map fun f => (f.offset,f.type))=l) {i off:Nat} {ft:TypeId} (h:l[i]? = some (off,ft)):∃ f:Field,fs[i]? = some f ∧ f.offset=off ∧ f.type=ft:=by
  subst e
  rw [List.getElem?_map,Array.getElem?_toList] at h
  cases ef:fs[i]? with
  | none => rw [ef] at h; cases h
  | some f => rw [ef] at h; simp at h; exact ⟨f,rfl,h.1,h.2⟩
theorem fieldAddr_sound {P E} (O:EnvOK P E) {base c} (H:HR base c) {t x f r v} (h:fieldAddrA E t x f=some r) (hv:RV c x v):Comp P c (Instr.fieldAt t v f) r:=by
  unfold fieldAddrA at h
  split at h
  case h_2 => cases h
  rename_i fs _ _ _ _ ht
  obtain ⟨Fs,hu,hfs⟩:=under_strct O ht
  split at h
  case h_2 => cases h
  rename_i off ft hf
  obtain ⟨F,hF,rfl,rfl⟩:=fields_get hfs hf
  split at h
  case h_2 => cases h
  rename_i τ he
  split at h
  · cases h
  rename_i hsz
  split at h
  · rename_i key o
    cases h
    cases hv with
    | ptr _ _ g1 =>
    exact ⟨.pointer (some ⟨c.mu key,o + F.offset,none⟩),by simp [Instr.fieldAt,run_underlying hu,hF,Instr.sureAddr,fieldPlace,run_size O he,hsz,addr_add],.ptr key _ g1⟩
  · rename_i cs
    split at h
    case isFalse => cases h
    rename_i hle
    cases h
    cases hv with
    | pel _ vs b off g1 g2 g3 g4 g5 =>
    refine ⟨.pointer (some ⟨b,off + F.offset,none⟩),by simp [Instr.fieldAt,run_underlying hu,hF,Instr.sureAddr,fieldPlace,run_size O he,hsz,addr_add],?_⟩
    exact .pel _ (vs.drop _) b _ (g1.drop _) (fun x hx => g2 x (List.mem_of_mem_drop hx)) (fun x hx => g3 x (List.mem_of_mem_drop hx)) g4 (fun j cell hj => by
      rw [List.getElem?_drop] at hj
      rw [Nat.add_assoc]; exact g5 _ _ hj)
  · cases h
theorem part_sound {P E} (O:EnvOK P E) {c:Cx} {t cs off r vs} (h:partA E t cs off=some r) (hv:RVs c cs vs) (hs:∀ x ∈ cs,x.scal=true):Comp P c (part t ⟨vs⟩ off) r:=by
  unfold partA at h
  split at h
  case h_2 => cases h
  rename_i τ ht
  split at h
  case isFalse => cases h
  rename_i hle
  have hl:=hv.length
  obtain ⟨q1,q2,q3⟩:=mk1_sound O ht h ((hv.drop off).take τ.size) (fun x hx => hs x (List.mem_of_mem_drop (List.mem_of_mem_take hx)))
  refine ⟨_,?_,q1⟩
  unfold part
  simp only [Sem.run_bind,run_isAgg O ht,Result.andThen_ok]
  split
  · simp only [Sem.run_bind,run_size O ht,Result.andThen_ok,Sem.run_pure]
    congr 2
    apply Array.ext'
    simp
  · rename_i ha
    have hsz:=q3 (by simpa using ha)
    rw [List.length_take,List.length_drop] at hsz
    have hlt:off < vs.length:=by omega
    have e1:(⟨vs⟩:Array Value)[off]? = some vs[off]:=by simp [hlt]
    rw [e1]
    simp only [Sem.run_pure]
    congr 1
    rw [List.getD_eq_getElem?_getD,List.getElem?_take,List.getElem?_drop]
    rw [if_pos (by omega)]
    simp [hlt]
theorem field_sound {P E} (O:EnvOK P E) {c:Cx} {t x f r v} (h:fieldA E t x f=some r) (hv:RV c x v):Comp P c (Instr.field t v f) r:=by
  unfold fieldA at h
  split at h
  case h_2 => cases h
  rename_i fs _ _ _ _ cs ht
  obtain ⟨Fs,hu,hfs⟩:=under_strct O ht
  split at h
  case h_2 => cases h
  rename_i off ft hf
  obtain ⟨F,hF,rfl,rfl⟩:=fields_get hfs hf
  cases hv with
  | agg _ vs g1 g2 =>
  obtain ⟨u,q1,q2⟩:=part_sound O h g1 g2
  exact ⟨u,by simp [Instr.field,run_underlying hu,hF,asAgg,q1],q2⟩
theorem index_sound {P E} (O:EnvOK P E) {c:Cx} {t x i r v vi} (h:indexA E t x i=some r) (hv:RV c x v) (hi:RV c i vi):Comp P c (Instr.index t v vi) r:=by
  unfold indexA at h
  split at h
  · rename_i n e _ _ _ _ cs ik i ht
    have hu:=under_arr O ht
    split at h
    case h_2 => cases h
    rename_i τ he
    split at h
    case isFalse => cases h
    rename_i hib
    cases hi
    cases hv with
    | agg _ vs g1 g2 =>
    obtain ⟨u,q1,q2⟩:=part_sound O h g1 g2
    exact ⟨u,by simp [Instr.index,asIntOf,run_underlying hu,hib,run_size O he,q1],q2⟩
  · rename_i _ _ _ _ l ik i ht
    have hu:=under_str O ht
    split at h
    case isFalse => cases h
    rename_i hib
    cases hi
    cases hv with
    | str _ s g1 =>
    subst g1
    rw [List.getElem?_map] at h
    cases e:s.data.toList[i.toNat]? with
    | none => rw [e] at h; cases h
    | some b =>
      rw [e] at h; cases h
      have hlt:i.toNat < s.size:=by have:=(List.getElem?_eq_some_iff.1 e).1; simpa using this
      have hb:s[i.toNat]? = some b:=by
        rw [getElem?_pos s i.toNat hlt]
        have:=(List.getElem?_eq_some_iff.1 e).2
        simp at this
        rw [← this]; rfl
      exact ⟨.int .u8 b.toNat,by simp [Instr.index,asIntOf,run_underlying hu,hib,hb],.int _ _⟩
  · cases h
theorem fold_cells:∀ (us:List Value) (k off:Nat) (arr:Array Value),off + k + us.length ≤ arr.size →
    ((us.zipIdx k).foldl (fun cs (p:Value × Nat) => cs.setIfInBounds (off + p.2) p.1) arr).size=arr.size ∧
    ∀ i,((us.zipIdx k).foldl (fun cs (p:Value × Nat) => cs.setIfInBounds (off + p.2) p.1) arr)[i]? = if i < off + k then arr[i]? else if i < off + k + us.length then us[i - (off + k)]? else arr[i]?
  | [],k,off,arr,h => by
    refine ⟨by simp,fun i => ?_⟩
    simp only [List.zipIdx_nil,List.foldl_nil,List.length_nil,Nat.add_zero]
    split <;> rfl
  | v :: r,k,off,arr,h => by
    simp only [List.zipIdx_cons,List.foldl_cons]
    simp only [List.length_cons] at h
    obtain ⟨h1,h2⟩:=fold_cells r (k + 1) off (arr.setIfInBounds (off + k) v) (by simp; omega)
    refine ⟨by rw [h1]; simp,fun i => ?_⟩
    rw [h2 i]
    by_cases e1:i < off + k
    · rw [if_pos (by omega),if_pos e1,Array.getElem?_setIfInBounds,if_neg (by omega)]
    · rw [if_neg e1]
      by_cases e2:i=off + k
      · subst e2
        rw [if_pos (by omega),if_pos (by simp),Array.getElem?_setIfInBounds,if_pos rfl,if_pos (by omega)]
        simp
      · rw [if_neg (by omega)]
        by_cases e3:i < off + (k + 1) + r.length
        · rw [if_pos e3,if_pos (by simp; omega),show i - (off + k)=(i - (off + (k + 1))) + 1 by omega]
          simp
        · rw [if_neg e3,if_neg (by simp; omega),Array.getElem?_setIfInBounds,if_neg (by omega)]
theorem fill_sound {c:Cx} {placeA:Nat → Option (Nat × Nat)}:∀ {ps:List (Nat × AV)} {cells out:List AV} {arr:Array Value} {vs:List Value},
    fillA placeA cells ps=some out → RVs c cells arr.toList → RVs c (ps.map (·.2)) vs → (∀ x ∈ cells,x.scal=true) →
    ∃ arr',Instr.fill placeA arr ((ps.map (·.1)).zip vs)=some arr' ∧ RVs c out arr'.toList ∧ (∀ x ∈ out,x.scal=true)
  | [],cells,out,arr,vs,h,hc,hv,hs => by
    simp [fillA] at h; subst h
    exact ⟨arr,by simp [Instr.fill],hc,hs⟩
  | (i,x) :: ps,cells,out,arr,vs,h,hc,hv,hs => by
    simp only [fillA] at h
    split at h
    · cases h
    rename_i off size hp
    split at h
    case isFalse => cases h
    rename_i hcnd
    obtain ⟨c1,c2,c3⟩:=hcnd
    cases hv with
    | cons _ u _ us h1 h2 =>
    have hul:u.cells.size=size:=by rw [h1.cells_size,c1]
    have hal:arr.size=cells.length:=by have:=hc.length; simpa using this.symm
    obtain ⟨f1,f2⟩:=fold_cells u.cells.toList 0 off arr (by simp; omega)
    have hfold:u.cells.zipIdx.foldl (fun cs (p:Value × Nat) => cs.setIfInBounds (off + p.2) p.1) arr=(u.cells.toList.zipIdx 0).foldl (fun cs (p:Value × Nat) => cs.setIfInBounds (off + p.2) p.1) arr:=by
      rw [← Array.foldl_toList]; simp
    have hstep:RVs c (writeL cells off x.cells) ((u.cells.toList.zipIdx 0).foldl (fun cs (p:Value × Nat) => cs.setIfInBounds (off + p.2) p.1) arr).toList:=by
      refine .of_get (by rw [writeL_length _ _ _ (by omega),Array.length_toList]; exact hal.symm.trans f1.symm) fun j y v hy hv => ?_
      rw [writeL_get _ _ _ (by omega)] at hy
      rw [Array.getElem?_toList,f2] at hv
      simp only [Nat.add_zero,Array.length_toList,hul] at hv
      rw [c1] at hy
      split at hy
      · rename_i e1
        rw [if_pos e1] at hv
        obtain ⟨w1,q1,q2⟩:=hc.get hy
        rw [Array.getElem?_toList,hv] at q1; cases q1; exact q2
      · rename_i e1
        rw [if_neg e1] at hv
        split at hy
        · rename_i e2
          rw [if_pos e2] at hv
          obtain ⟨w1,q1,q2⟩:=h1.cells.get hy
          rw [hv] at q1; cases q1; exact q2
        · rename_i e2
          rw [if_neg e2] at hv
          obtain ⟨w1,q1,q2⟩:=hc.get hy
          rw [Array.getElem?_toList,hv] at q1; cases q1; exact q2
    have hsc:∀ y ∈ writeL cells off x.cells,y.scal=true:=by
      intro y hy
      unfold writeL at hy
      simp only [List.mem_append] at hy
      rcases hy with (hy | hy) | hy
      · exact hs y (List.mem_of_mem_take hy)
      · exact List.all_eq_true.1 c3 y hy
      · exact hs y (List.mem_of_mem_drop hy)
    obtain ⟨arr',g1,g2,g3⟩:=fill_sound (c:=c) (placeA:=placeA) h hstep h2 hsc
    refine ⟨arr',?_,g2,g3⟩
    simp only [List.map_cons,List.zip_cons_cons,Instr.fill,hp]
    have:¬ (u.cells.size ≠ size || off + u.cells.size > arr.size)=true:=by simp [hul]; omega
    simp only [this]
    rw [hfold]
    exact g1
end Ab
/- What makes and turns memory. Own work, no conditions. -/
set_option linter.unusedVariables false
set_option linter.unusedSimpArgs false
namespace Ab
open Go
def Made (P:Program) (base:Nat) (c:Cx) (s:Sem Value) (r:AV) (h':Heap):Prop :=
  ∃ v c',c'.h=h' ∧ s.run P c.w=.ok v c'.w ∧ RV c' r v ∧ HR base c' ∧ Ext base c c'
theorem Comp.made {P base c s r} (h:Comp P c s r) (H:HR base c):Made P base c s r c.h:=by
  obtain ⟨v,h1,h2⟩:=h
  exact ⟨v,c,rfl,h1,h2,H,.refl _ _⟩
theorem zero_info {P E} (O:EnvOK P E) {t τ} (h:E.ty t=some τ):∃ i z,P.info? t=some i ∧ i.zero=some z ∧ i.size=τ.size ∧ i.bytes=τ.bytes ∧ (∀ c,RVs c τ.zero z.cells.toList) ∧ (∀ x ∈ τ.zero,x.scal=true) ∧ τ.zero.length=τ.size:=by
  obtain ⟨i,z,h1,h2,h3,h4,h5,h6,h7,h8⟩:=(O.ty t τ h).info
  exact ⟨i,z,h1,h4,h2,h3,fun c => ofVL_sound c _ _ h5,List.all_eq_true.1 h6,h7⟩
theorem rows_get {c:Cx} {cs:List AV} {arr:Array Value} (h:RVs c cs arr.toList) (hs:∀ x ∈ cs,x.scal=true):∀ (i:Nat) x,cs[i]? = some x → ∃ v,arr[i]? = some v ∧ RV c x v ∧ x.scal=true:=by
  intro i x hx
  obtain ⟨v,q1,q2⟩:=h.get hx
  exact ⟨v,by simpa using q1,q2,hs x (List.mem_of_getElem? hx)⟩
theorem row_made (P:Program) {base c} (H:HR base c) (hb:base ≤ c.w.heap.size) {lvl slot cs esz eagg h' k'} (hn:newK c.h lvl slot cs true esz eagg=(h',k')) {arr:Array Value} (hr:RVs c cs arr.toList) (hs:∀ x ∈ cs,x.scal=true) (e:TypeId) :
    ∃ c',c'.h=h' ∧ (newRow e arr).run P c.w=.ok ⟨c'.mu k',0,none⟩ c'.w ∧ c'.Vk k' ∧ HR base c' ∧ Ext base c c':=by
  have hl:arr.size=cs.length:=by have:=hr.length; simpa using this.symm
  obtain ⟨c',a1,a2,a3,a4,a5,a6⟩:=newK_sound H hb hn arr e (0,0) (by simp) (by omega) (fun _ => hl) 0 (by simp) (rows_get hr hs) 0
  refine ⟨c',a1,?_,a4,a5,a6⟩
  rw [a2,show c'.mu k'=c.w.heap.size from congrArg Prod.fst a3]
  simp [newRow]
theorem alloc_sound {P E} (O:EnvOK P E) {base c} (H:HR base c) (hb:base ≤ c.w.heap.size) {lvl slot e τ h' k'} (he:E.ty e=some τ) (hn:newK c.h lvl slot τ.zero true 1 false=(h',k')) :
    Made P base c (Instr.alloc e true (.tuple #[])) (.ptr k' 0) h':=by
  obtain ⟨i,z,h1,h2,h3,h4,h5,h6,h7⟩:=zero_info O he
  obtain ⟨c',a1,a2,a3,a4,a5⟩:=row_made P H hb hn (h5 c) h6 e
  refine ⟨.pointer (some ⟨c'.mu k',0,none⟩),c',a1,?_,.ptr k' 0 a3,a4,a5⟩
  simp [Instr.alloc,zeroValue,typeInfo,h1,h2,newVar,a2]
theorem box_sound {P:Program} {base c} (H:HR base c) (hb:base ≤ c.w.heap.size) {lvl slot e a v h' k'} (hv:RV c a v) (hs:a.cells.all AV.scal=true) (hn:newK c.h lvl slot a.cells true 1 false=(h',k')) :
    Made P base c (Instr.box e v) (.ptr k' 0) h':=by
  obtain ⟨c',a1,a2,a3,a4,a5⟩:=row_made P H hb hn hv.cells (List.all_eq_true.1 hs) e
  refine ⟨.pointer (some ⟨c'.mu k',0,none⟩),c',a1,?_,.ptr k' 0 a3,a4,a5⟩
  simp [Instr.box,newVar,a2]
theorem rep_rvs {c:Cx} {zs:List AV} {us:List Value} (h:RVs c zs us):∀ n,RVs c (List.replicate n zs).flatten (List.replicate n us).flatten
  | 0 => .nil
  | n + 1 => by simpa [List.replicate_succ] using h.append (rep_rvs h n)
theorem rep_scal {zs:List AV} (h:∀ x ∈ zs,x.scal=true) (n:Nat):∀ x ∈ (List.replicate n zs).flatten,x.scal=true:=by
  intro x hx
  simp only [List.mem_flatten,List.mem_replicate] at hx
  obtain ⟨l,⟨_,rfl⟩,hx⟩:=hx
  exact h x hx
theorem zero_cells (z:Array Value) (hz:0 < z.size) (n:Nat):((Array.range (n * z.size)).map (fun i => z[i % z.size]!)).toList=(List.replicate n z.toList).flatten:=by
  apply List.ext_getElem?
  intro i
  have hlen:((List.replicate n z.toList).flatten).length=n * z.size:=by simp
  by_cases hi:i < n * z.size
  · have hm:i % z.size < z.size:=Nat.mod_lt _ hz
    have:∀ (n i:Nat),i < n * z.size → ((List.replicate n z.toList).flatten)[i]? = z.toList[i % z.size]?:=by
      intro n
      induction n with
      | zero => intro i h; simp at h
      | succ n ih =>
        intro i h
        rw [List.replicate_succ,List.flatten_cons,List.getElem?_append]
        split
        · rename_i h1
          rw [Nat.mod_eq_of_lt (by simpa using h1)]
        · rename_i h1
          simp only [Array.length_toList] at h1 ⊢
          have e:(n + 1) * z.size=z.size + n * z.size:=by rw [Nat.add_mul,Nat.one_mul,Nat.add_comm]
          rw [ih _ (by omega)]
          congr 1
          exact (Nat.mod_eq_sub_mod (by omega)).symm
    rw [this n i hi]
    simp [hi,hm]
  · rw [List.getElem?_eq_none (by simpa using hi),List.getElem?_eq_none (by omega)]
theorem range_zero_map {α} (f:Nat → α):(Array.range 0).map f = #[]:=by simp
theorem buildSlice_sound {P E} (O:EnvOK P E) {base c} (H:HR base c) (hb:base ≤ c.w.heap.size) {lvl slot t e a b z m τ len} {is:List Nat} {xs:List AV} {vs:List Value} {cs h' k'} (ht:E.ty t=some ⟨.slice e,a,b,z,m⟩) (he:E.ty e=some τ)
    (h1:len * τ.size ≤ 16777216) (h2:τ.zero.length=τ.size) (h3:0 < τ.size) (hil:is.length=xs.length)
    (hf:fillA (fun i => some (i * τ.size,τ.size)) ((List.replicate len τ.zero).flatten) (is.zip xs)=some cs) (hv:RVs c xs vs) (hn:newK c.h lvl slot cs true τ.size τ.d.isAgg=(h',k')) (parts:Array (Nat × Value)) (hp:parts.toList=is.zip vs) :
    Made P base c (Instr.buildSlice t len parts) (.ref k' 0 len (some len)) h':=by
  obtain ⟨i,zv,i1,i2,i3,i4,i5,i6,i7⟩:=zero_info O he
  have hzs:zv.cells.size=τ.size:=by have:=(i5 c).length; simp at this; omega
  have hpx:(is.zip xs).map (·.2)=xs:=by rw [List.map_snd_zip]; omega
  have hpi:(is.zip xs).map (·.1)=is:=by rw [List.map_fst_zip]; omega
  have hz:RVs c ((List.replicate len τ.zero).flatten) ((Array.range (len * τ.size)).map (fun j => zv.cells[j % zv.cells.size]!)).toList:=by
    rw [← hzs,zero_cells _ (by omega)]
    exact rep_rvs (i5 c) len
  obtain ⟨arr',f1,f2,f3⟩:=fill_sound (c:=c) (vs:=vs) hf hz (by rw [hpx]; exact hv) (rep_scal i6 len)
  rw [hpi] at f1
  obtain ⟨c',a1,a2,a3,a4,a5⟩:=row_made P H hb hn f2 f3 e
  refine ⟨.slice (some ⟨c'.mu k',0,none⟩) len len,c',a1,?_,.ref k' 0 len _ len a3 (Nat.le_refl _) (by simp) (by simp),a4,a5⟩
  have hbig:¬ (len * τ.size > 2 ^ 24):=by omega
  unfold Instr.buildSlice
  simp only [Sem.run_bind,run_underlying (under_slice O ht),Result.andThen_ok,run_size O he]
  rw [if_neg (by simpa using hbig)]
  by_cases e0:len * τ.size=0
  · rw [if_pos e0]
    simp only [Sem.run_bind,Sem.run_pure,Result.andThen_ok]
    rw [e0] at f1 ⊢
    rw [range_zero_map] at f1 ⊢
    rw [hp,f1]
    simp [a2]
  · rw [if_neg e0]
    simp only [Sem.run_bind,zeroValue,typeInfo,run_program,Result.andThen_ok,i1,i2,Sem.run_pure]
    rw [hp,f1]
    simp [a2]
theorem makeSlice_sound {P E} (O:EnvOK P E) {base c} (H:HR base c) (hb:base ≤ c.w.heap.size) {lvl slot t e a b z m τ h' k'} {l cp:Int} (ht:E.ty t=some ⟨.slice e,a,b,z,m⟩) (he:E.ty e=some τ)
    (h0:0 ≤ l) (h1:l ≤ cp) (h2:cp * τ.bytes ≤ 70368744177664) (h3:0 < τ.bytes) (h4:τ.zero.length=τ.size) (h5:0 < τ.size)
    (hn:newK c.h lvl slot ((List.replicate cp.toNat τ.zero).flatten) true τ.size τ.d.isAgg=(h',k')) :
    Made P base c (Instr.makeSlice t (.int .i64 l) (.int .i64 cp)) (.ref k' 0 l.toNat (some cp.toNat)) h':=by
  obtain ⟨i,zv,i1,i2,i3,i4,i5,i6,i7⟩:=zero_info O he
  have hzs:zv.cells.size=τ.size:=by have:=(i5 c).length; simp at this; omega
  have hcp:cp ≤ 70368744177664:=by
    have:cp * 1 ≤ cp * (τ.bytes:Int):=Int.mul_le_mul_of_nonneg_left (by omega) (by omega)
    omega
  have hwl:IntKind.i64.wrap l=l:=Go.IntWalk.i64_in _ (by omega)
  have hwc:IntKind.i64.wrap cp=cp:=Go.IntWalk.i64_in _ (by omega)
  have hz:RVs c ((List.replicate cp.toNat τ.zero).flatten) ((Array.range (cp.toNat * τ.size)).map (fun j => zv.cells[j % zv.cells.size]!)).toList:=by
    rw [← hzs,zero_cells _ (by omega)]
    exact rep_rvs (i5 c) _
  obtain ⟨c',a1,a2,a3,a4,a5⟩:=row_made P H hb hn hz (rep_scal i6 _) e
  refine ⟨.slice (some ⟨c'.mu k',0,none⟩) l.toNat cp.toNat,c',a1,?_,.ref k' 0 _ _ _ a3 (by omega) (by simp) (by simp),a4,a5⟩
  have hsmall:∀ n:Int,0 ≤ n → n * τ.bytes ≤ 70368744177664 → ((n < 0 || ((τ.bytes:Int) * n > 2 ^ 48)):Bool)=false:=by
    intro n hn hm
    have:(τ.bytes:Int) * n=n * τ.bytes:=Int.mul_comm _ _
    simp only [Bool.or_eq_false_iff,decide_eq_false_iff_not]
    constructor <;> omega
  have hb2:=hsmall cp (by omega) h2
  unfold Instr.makeSlice
  simp only [Sem.run_bind,run_underlying (under_slice O ht),Result.andThen_ok,asInt,asIntOf,Sem.run_pure,typeInfo,run_program,i1,i4,hwl,hwc]
  have hc1:¬ ((((cp < 0 || ((τ.bytes:Int) * cp > 2 ^ 48)) || decide (l < 0) || decide (l > cp)):Bool)=true):=by
    rw [hb2]; simp; omega
  rw [if_neg hc1]
  simp only [Sem.run_bind,run_askRoom,Result.andThen_ok,run_size O he]
  by_cases e0:cp.toNat * τ.size=0
  · rw [if_pos e0]
    simp only [Sem.run_bind,Sem.run_pure,Result.andThen_ok]
    rw [e0] at a2 ⊢
    rw [range_zero_map] at a2 ⊢
    simp [a2]
  · rw [if_neg e0]
    simp only [Sem.run_bind,zeroValue,typeInfo,run_program,Result.andThen_ok,i1,i2,Sem.run_pure,a2]
theorem load_sound {P E} (O:EnvOK P E) {base c} (H:HR base c) {t τ p v cs r} (ht:E.ty t=some τ) (hr:readC c.h p τ.size=some cs) (hm:τ.mk1 cs=some r) (hv:RV c p v):Comp P c (Instr.loadAt t v) r:=by
  obtain ⟨b,off,vs,rfl,h1,h2,h3,h4⟩:=readC_sound H hr hv
  obtain ⟨q1,q2,q3⟩:=mk1_sound O ht hm h1 h3
  refine ⟨_,?_,q1⟩
  simp only [Instr.loadAt,Instr.sureAddr,Sem.run_bind,Sem.run_pure,Result.andThen_ok,loadVar,run_isAgg O ht]
  split
  · simp only [Sem.run_bind,run_size O ht,Result.andThen_ok]
    rw [run_loadCells_at P b off vs c.w τ.size h2.symm h4]
    simp
  · rename_i ha
    have:=q3 (by simpa using ha)
    have e:vs[0]? = some (vs.getD 0 undef):=by rw [List.getD_eq_getElem?_getD]; simp [this]
    have:=h4 0 _ e
    simp only [Nat.add_zero] at this
    simp [run_load,this]
theorem store_sound {P E} (O:EnvOK P E) {base c} (H:HR base c) {t τ key off x v h'} (ht:E.ty t=some τ) (hl:x.cells.length=τ.size) (hw:writeC c.h key off x.cells=some h') (hv:RV c x v) (hp:c.Vk key) :
    ∃ c',c'.h=h' ∧ (Instr.storeAt t (.pointer (some ⟨c.mu key,off,none⟩)) v).run P c.w=.ok () c'.w ∧ HR base c' ∧ Ext base c c':=by
  obtain ⟨c',a1,a2,a3,a4,a5⟩:=writeC_sound P H hw hv.cells
  refine ⟨c',a1,?_,a4,a5⟩
  have hsz:v.cells.size=τ.size:=by rw [hv.cells_size,hl]
  simp [Instr.storeAt,Instr.sureAddr,storeVar,run_size O ht,hsz,a3]
end Ab
/- append and copy. Own work, no conditions. -/
set_option linter.unusedVariables false
set_option linter.unusedSimpArgs false
namespace Ab
open Go
theorem growBy_le (need:Nat) (hn:256 ≤ need):∀ r c,c ≤ 2 * need → Builtin.growBy need r c ≤ 2 * need
  | 0,c,h => h
  | r + 1,c,h => by
    unfold Builtin.growBy
    split
    · exact h
    · exact growBy_le need hn r _ (by omega)
theorem nextslicecap_le {need old:Nat} (h:old < need):Builtin.nextslicecap need old ≤ 2 * need:=by
  unfold Builtin.nextslicecap
  split
  · omega
  · split
    · omega
    · exact growBy_le need (by omega) _ _ (by omega)
theorem append_room {P E} (O:EnvOK P E) {t e a b z m τ t2 τ2} {ts:Array TypeId} {ty:TypeId} {args:Array Value} {base:Option Addr} {sLen sCap n:Nat} {vx:Value} {w w':World} {new:Array Value}
    (ht:E.ty t=some ⟨.slice e,a,b,z,m⟩) (he:E.ty e=some τ) (hts:ts[0]? = some t) (hts2:ts[1]? = some t2) (ht2:E.ty t2=some τ2) (hni:∀ k,τ2.d ≠ .int k)
    (h0:args[0]? = some (.slice base sLen sCap)) (h1:args[1]? = some vx) (hn:(Builtin.lenOf vx).run P w=.ok n w) (hroom:sLen + n ≤ sCap)
    (hf:(Builtin.firstCells τ.size n vx).run P w=.ok new w) (hs:∀ a,base=some a → (storeCells (a.add (sLen * τ.size)) new.toList).run P w=.ok () w') (hb0:base=none → w'=w) :
    (Builtin.append_ ts ty args).run P w=.ok (.slice base (sLen + n) sCap) w':=by
  obtain ⟨d2,hd2,hd2'⟩:=under_of O ht2
  have hni2:∀ k,d2 ≠ .int k:=by
    intro k hk; subst hk
    cases hτ:τ2.d <;> simp [dOK,hτ] at hd2'
    exact hni _ hτ
  unfold Builtin.append_
  simp only [hts,h0,h1,hts2,Sem.run_bind,run_underlying (under_slice O ht),Result.andThen_ok,run_size O he,run_underlying hd2,Sem.run_pure]
  cases d2
  case int k => exact absurd rfl (hni2 k)
  all_goals
    simp only [Bool.false_eq_true,if_false,Sem.run_bind,hn,Result.andThen_ok,hroom,if_true,Bool.not_false,hf]
    cases base with
    | none => simp [hb0 rfl]
    | some a => simp [hs a rfl]
theorem append_grow {P E} (O:EnvOK P E) {t e a b z m τ t2 τ2} {ts:Array TypeId} {ty:TypeId} {args:Array Value} {base:Option Addr} {sLen sCap n:Nat} {vx:Value} {w:World} {old new:Array Value}
    (ht:E.ty t=some ⟨.slice e,a,b,z,m⟩) (he:E.ty e=some τ) (hts:ts[0]? = some t) (hts2:ts[1]? = some t2) (ht2:E.ty t2=some τ2) (hni:∀ k,τ2.d ≠ .int k)
    (h0:args[0]? = some (.slice base sLen sCap)) (h1:args[1]? = some vx) (hn:(Builtin.lenOf vx).run P w=.ok n w) (hroom:sCap < sLen + n)
    (hsz:(sLen + n) * τ.bytes ≤ 70368744177664) (hb:0 < τ.bytes)
    (hf:∀ w',w'.heap=w.heap → (Builtin.firstCells τ.size n vx).run P w'=.ok new w') (hf0:∀ w',w'.heap=w.heap → (Builtin.firstCells τ.size sLen (.slice base sLen sCap)).run P w'=.ok old w') :
    ∃ (cap:Nat) (rest:Array Value),sLen + n ≤ cap ∧ rest.size=(cap - (sLen + n)) * τ.size ∧
    (Builtin.append_ ts ty args).run P w=.ok (.slice (some ⟨w.heap.size,0,none⟩) (sLen + n) cap) { w with heap:=w.heap.push (.cells (old ++ new ++ rest) e (0,0)),drawn:=w.drawn + 1 }:=by
  obtain ⟨d2,hd2,hd2'⟩:=under_of O ht2
  have hni2:∀ k,d2 ≠ .int k:=by
    intro k hk; subst hk
    cases hτ:τ2.d <;> simp [dOK,hτ] at hd2'
    exact hni _ hτ
  obtain ⟨i,zv,i1,i2,i3,i4,i5,i6,i7⟩:=zero_info O he
  have hzs:zv.cells.size=τ.size:=by
    have:=(i5 ⟨w,fun _ => True,fun _ => (0,0),[]⟩).length; simp at this; omega
  have hle:sLen + n ≤ 70368744177664:=by
    have:(sLen + n) * 1 ≤ (sLen + n) * τ.bytes:=Nat.mul_le_mul_left _ hb
    omega
  have hnext:¬ (Builtin.nextslicecap (sLen + n) sCap * τ.bytes > 2 ^ 48):=by
    have h2:=nextslicecap_le hroom
    have:Builtin.nextslicecap (sLen + n) sCap * τ.bytes ≤ 2 * (sLen + n) * τ.bytes:=Nat.mul_le_mul_right _ h2
    have h3:2 * (sLen + n) * τ.bytes=2 * ((sLen + n) * τ.bytes):=by rw [Nat.mul_assoc]
    omega
  have hmax:¬ (((sLen + n:Nat):Int) > IntKind.i64.max):=by
    simp [IntKind.max,IntKind.signed,IntKind.bits]; omega
  let cap:=(Question.appendCap (sLen + n) sCap e).cut (w.tape w.drawn (.appendCap (sLen + n) sCap e))
  have hcap:sLen + n ≤ cap:=by show _ ≤ _ + _; omega
  refine ⟨cap,Builtin.zeroCells zv.cells (cap - (sLen + n)),hcap,by simp [Builtin.zeroCells,hzs],?_⟩
  unfold Builtin.append_
  simp only [hts,h0,h1,hts2,Sem.run_bind,run_underlying (under_slice O ht),Result.andThen_ok,run_size O he,run_underlying hd2,Sem.run_pure]
  have hnr:¬ (sLen + n ≤ sCap):=by omega
  cases d2
  case int k => exact absurd rfl (hni2 k)
  all_goals
    simp only [Bool.false_eq_true,if_false,Sem.run_bind,hn,Result.andThen_ok,hnr,Bool.not_false,if_true,typeInfo,run_program,i1,i4,Sem.run_pure,hmax,false_and,hnext,run_choose,Question.forced,run_askRoom]
    rw [hf0 { w with drawn:=w.drawn + 1 } rfl]
    simp only [Result.andThen_ok]
    rw [hf { w with drawn:=w.drawn + 1 } rfl]
    simp only [Result.andThen_ok,zeroValue,typeInfo,Sem.run_bind,run_program,i1,i2,Sem.run_pure,newRow,run_newObj]
    rfl
end Ab
/- append and copy, as the evaluator has them. Own work, no conditions. -/
set_option linter.unusedVariables false
set_option linter.unusedSimpArgs false
namespace Ab
open Go
theorem inplace_sound (P:Program) {base c} (H:HR base c) {k o} (hk:lookK c.h k=some o) (hl:o.live=true) (hm:o.mt=true) (hx:o.exact=false) {ys us} (hv:RVs c ys us) (hs:∀ x ∈ ys,x.scal=true)
    (hroom:o.cells.length + us.length ≤ (c.m k).2 * o.esz) {lvl slot h' k'} (hn:newK (setK c.h k { o with live:=false }) lvl slot (o.cells ++ ys) false o.esz o.eagg=(h',k')) :
    ∃ c',c'.h=h' ∧ c'.m k'=c.m k ∧ c'.Vk k' ∧ (storeCells ⟨c.mu k,o.cells.length,none⟩ us).run P c.w=.ok () c'.w ∧ HR base c' ∧ Ext base c c':=by
  obtain ⟨arr,e,fr,h1,h2,h3,h4,h4b,h5⟩:=H.obj k o hk hl
  have hsize:=h4b hx
  have hul:=hv.length
  obtain ⟨arr',b1,b2,b3,b4⟩:=setCells_block (c.mu k) e fr us o.cells.length c.w arr h1 (by omega)
  have hmisc:=setCells_misc (c.mu k) us o.cells.length c.w
  have hmut:c.Mut (c.mu k):=⟨k,o,hk,hl,hm,rfl⟩
  unfold newK at hn
  cases hn
  let hd:=setK c.h k { o with live:=false }
  let k':Key:=(lvl,slot,genOf hd lvl slot)
  have hfd:lookK hd k'=none:=lookK_fresh _ _ _
  have hne:k ≠ k':=by intro e; rw [← e] at hfd; rw [lookK_setK_same] at hfd; cases hfd
  have hfresh:lookK c.h k'=none:=by
    change lookK (setK _ _ _) _=_ at hfd
    rwa [lookK_setK_other _ _ _ _ hne] at hfd
  let c':Cx:={ w:=c.w.setCells (c.mu k) o.cells.length us,Rd:=c.Rd,m:=fun q => if q=k' then c.m k else c.m q,h:=setK hd k' ⟨o.cells ++ ys,true,true,false,o.esz,o.eagg⟩ }
  have hmq:∀ q oq,lookK c.h q=some oq → c'.m q=c.m q:=fun q oq hq => if_neg fun e => by subst e; rw [hfresh] at hq; cases hq
  have hmuq:∀ q oq,lookK c.h q=some oq → c'.mu q=c.mu q:=fun q oq hq => congrArg Prod.fst (hmq q oq hq)
  have hmk:c'.m k'=c.m k:=if_pos rfl
  have hmuk:c'.mu k'=c.mu k:=congrArg Prod.fst hmk
  have key:∀ q oq,lookK c'.h q=some oq → (q=k' ∧ oq=⟨o.cells ++ ys,true,true,false,o.esz,o.eagg⟩) ∨ (oq.live=false) ∨ (q ≠ k' ∧ q ≠ k ∧ lookK c.h q=some oq):=by
    intro q oq hq
    change lookK (setK (setK _ _ _) _ _) q=_ at hq
    rw [lookK_setK] at hq
    split at hq
    · rename_i e; cases hq; exact .inl ⟨e.symm,rfl⟩
    · rename_i e
      rw [lookK_setK] at hq
      split at hq
      · cases hq; exact .inr (.inl rfl)
      · rename_i e2; exact .inr (.inr ⟨fun x => e x.symm,fun x => e2 x.symm,hq⟩)
  have hX:Ext base c c':=by
    refine ⟨hmisc.1,hmisc.2.1,hmisc.2.2.1,Nat.le_of_eq hmisc.2.2.2.symm,fun b hb hn => setCells_heap _ _ _ _ b fun e => hn (e ▸ hmut),fun _ h => h,?_,fun b h => .inl h,?_⟩
    · rintro q ⟨oq,hq⟩
      refine ⟨?_,hmq q oq hq⟩
      show ∃ _,lookK (setK (setK _ _ _) _ _) q=_
      rw [lookK_setK]; split
      · exact ⟨_,rfl⟩
      · rw [lookK_setK]; split
        · exact ⟨_,rfl⟩
        · exact ⟨_,hq⟩
    · rintro b ⟨q,oq,hq,ql,qm,rfl⟩
      refine .inl ?_
      rcases key q oq hq with ⟨rfl,rfl⟩ | hd | ⟨n1,n2,hq'⟩
      · rw [hmuk]; exact hmut
      · rw [hd] at ql; cases ql
      · rw [hmuq q oq hq']; exact ⟨q,oq,hq',ql,qm,rfl⟩
  have hother:∀ q oq,q ≠ k → lookK c.h q=some oq → oq.live=true → c.mu q ≠ c.mu k:=by
    intro q oq hqk hq ql e
    cases hqm:oq.mt with
    | true => exact hqk (H.inj q oq k o hq hk ql hl hqm hm e)
    | false => exact (H.mt k o hk hl hm).1 (e ▸ H.sld q oq hq ql hqm)
  refine ⟨c',rfl,hmk,⟨_,lookK_setK_same _ _ _⟩,?_,?_,hX⟩
  · have hcell:∀ j,j < us.length → c.w.cell? ⟨c.mu k,o.cells.length + j,none⟩=arr[o.cells.length + j]?:=fun j _ => by simp [World.cell?,h1]
    have:=run_storeCells_cells (P:=P) (c.mu k) o.cells.length us 0 c.w (fun j hj => by
        rw [Nat.add_zero,hcell j hj,Array.getElem?_eq_getElem (by omega)]; rfl)
      (fun j hj => by
        have:=h2 (o.cells.length + j) (by omega)
        simp only [World.frozen?,Nat.add_zero,h1]
        simpa using this)
      (fun v hv' => by
        obtain ⟨i,hi⟩:=List.mem_iff_getElem?.1 hv'
        obtain ⟨hi',_⟩:=List.getElem?_eq_some_iff.1 hi
        have hx:ys[i]? = some (ys[i]'(by omega)):=List.getElem?_eq_getElem (by omega)
        obtain ⟨v',q1,q2⟩:=hv.get hx
        rw [hi] at q1; cases q1
        exact oneCell_of_scal q2 (hs _ (List.getElem_mem _)))
    simpa using this
  · refine ⟨?_,?_,?_,?_,fun b hb => ?_⟩
    · intro q oq hq ql
      rcases key q oq hq with ⟨rfl,rfl⟩ | hd | ⟨n1,n2,hq'⟩
      · refine ⟨arr',e,fr,by rw [hmuk]; exact b1,fun i hi => h2 i (by omega),by simp only [List.length_append]; omega,by simp,fun _ => by rw [hmk,b2]; exact hsize,fun i x hx => ?_⟩
        dsimp only at hx
        rw [List.getElem?_append] at hx
        split at hx
        · rename_i hi
          obtain ⟨v,q1,q2,q3⟩:=h5 i x hx
          exact ⟨v,by rw [b4 i (.inl hi)]; exact q1,hX.rv H q2,q3⟩
        · rename_i hi
          obtain ⟨v,q1,q2⟩:=hv.get hx
          have hlt:=(List.getElem?_eq_some_iff.1 q1).1
          refine ⟨v,?_,hX.rv H q2,hs _ (List.mem_of_getElem? hx)⟩
          have:=b3 (i - o.cells.length) hlt
          rw [show o.cells.length + (i - o.cells.length)=i by omega] at this
          rw [this]; exact q1
      · rw [hd] at ql; cases ql
      · obtain ⟨ar,er,fr',g1,g2,g3,g4,g4b,g5⟩:=H.obj q oq hq' ql
        refine ⟨ar,er,fr',?_,g2,g3,g4,fun hx => by rw [hmq q oq hq']; exact g4b hx,fun i x hx => by
          obtain ⟨v,q1,q2,q3⟩:=g5 i x hx
          exact ⟨v,q1,hX.rv H q2,q3⟩⟩
        rw [hmuq q oq hq']
        exact (setCells_heap _ _ _ _ _ (hother q oq n2 hq' ql)).trans g1
    · intro q oq hq ql qm
      rcases key q oq hq with ⟨rfl,rfl⟩ | hd | ⟨n1,n2,hq'⟩
      · rw [hmuk]; exact H.mt k o hk hl hm
      · rw [hd] at ql; cases ql
      · rw [hmuq q oq hq']; exact H.mt q oq hq' ql qm
    · intro q oq hq ql qm
      rcases key q oq hq with ⟨rfl,rfl⟩ | hd | ⟨n1,n2,hq'⟩
      · cases qm
      · rw [hd] at ql; cases ql
      · rw [hmuq q oq hq']; exact H.sld q oq hq' ql qm
    · intro q oq q' oq' hq hq' ql ql' qm qm' e
      rcases key q oq hq with ⟨rfl,rfl⟩ | hd | ⟨n1,n2,hq1⟩
      · rcases key q' oq' hq' with ⟨rfl,rfl⟩ | hd | ⟨n1',n2',hq2⟩
        · rfl
        · rw [hd] at ql'; cases ql'
        · rw [hmuk,hmuq q' oq' hq2] at e
          exact absurd e.symm (hother q' oq' n2' hq2 ql')
      · rw [hd] at ql; cases ql
      · rcases key q' oq' hq' with ⟨rfl,rfl⟩ | hd | ⟨n1',n2',hq2⟩
        · rw [hmuk,hmuq q oq hq1] at e
          exact absurd e (hother q oq n2 hq1 ql)
        · rw [hd] at ql'; cases ql'
        · rw [hmuq q oq hq1,hmuq q' oq' hq2] at e
          exact H.inj _ _ _ _ hq1 hq2 ql ql' qm qm' e
    · show b < (c.w.setCells _ _ _).heap.size
      rw [hmisc.2.2.2]; exact H.rd b hb
theorem dead_sound {base c} (H:HR base c) {k o} (hk:lookK c.h k=some o):∃ c',c'.h=setK c.h k { o with live:=false } ∧ c'.w=c.w ∧ c'.m=c.m ∧ HR base c' ∧ Ext base c c':=by
  let c':Cx:={ c with h:=setK c.h k { o with live:=false } }
  have key:∀ q oq,lookK c'.h q=some oq → oq.live=true → lookK c.h q=some oq:=by
    intro q oq hq ql
    change lookK (setK _ _ _) q=_ at hq
    rw [lookK_setK] at hq
    split at hq
    · cases hq; cases ql
    · exact hq
  have hX:Ext base c c':=by
    refine ⟨rfl,rfl,rfl,Nat.le_refl _,fun _ _ _ => rfl,fun _ h => h,?_,fun b h => .inl h,?_⟩
    · rintro q ⟨oq,hq⟩
      refine ⟨?_,rfl⟩
      show ∃ _,lookK (setK _ _ _) q=_
      rw [lookK_setK]; split
      · exact ⟨_,rfl⟩
      · exact ⟨_,hq⟩
    · rintro b ⟨q,oq,hq,ql,qm,rfl⟩
      exact .inl ⟨q,oq,key q oq hq ql,ql,qm,rfl⟩
  refine ⟨c',rfl,rfl,rfl,⟨?_,?_,?_,?_,H.rd⟩,hX⟩
  · intro q oq hq ql
    obtain ⟨ar,er,fr',g1,g2,g3,g4,g4b,g5⟩:=H.obj q oq (key q oq hq ql) ql
    exact ⟨ar,er,fr',g1,g2,g3,g4,g4b,fun i x hx => by
      obtain ⟨v,q1,q2,q3⟩:=g5 i x hx
      exact ⟨v,q1,hX.rv H q2,q3⟩⟩
  · exact fun q oq hq ql qm => H.mt q oq (key q oq hq ql) ql qm
  · exact fun q oq hq ql qm => H.sld q oq (key q oq hq ql) ql qm
  · exact fun q oq q' oq' hq hq' ql ql' qm qm' e => H.inj _ _ _ _ (key q oq hq ql) (key q' oq' hq' ql') ql ql' qm qm' e
end Ab
/- append, copy and the other builtins, as the evaluator has them. Own work, no conditions. -/
set_option linter.unusedVariables false
set_option linter.unusedSimpArgs false
namespace Ab
open Go
theorem grown_made (P:Program) {base c} (H:HR base c) (hb:base ≤ c.w.heap.size) {lvl slot zs ys esz eagg h' k'} (hn:newK c.h lvl slot (zs ++ ys) false esz eagg=(h',k')) {old new:List Value} (ho:RVs c zs old) (hw:RVs c ys new)
    (hs1:∀ x ∈ zs,x.scal=true) (hs2:∀ x ∈ ys,x.scal=true) {need cap:Nat} {rest:Array Value} (hz:zs.length + ys.length=need * esz) (hcap:need ≤ cap) (hrest:rest.size=(cap - need) * esz) (e:TypeId) {s:Sem Value}
    (hrun:s.run P c.w=.ok (.slice (some ⟨c.w.heap.size,0,none⟩) need cap) { c.w with heap:=c.w.heap.push (.cells (old.toArray ++ new.toArray ++ rest) e (0,0)),drawn:=c.w.drawn + 1 }) :
    Made P base c s (.ref k' 0 need none) h':=by
  have hl1:=ho.length
  have hl2:=hw.length
  have hcm:need * esz ≤ cap * esz:=Nat.mul_le_mul_right _ hcap
  have hsub:(cap - need) * esz=cap * esz - need * esz:=Nat.sub_mul _ _ _
  have hsize:(old.toArray ++ new.toArray ++ rest).size=cap * esz:=by simp; omega
  obtain ⟨c',a1,a2,a3,a4,a5,a6⟩:=newK_sound H hb hn (old.toArray ++ new.toArray ++ rest) e (0,0) (by simp) (by rw [hsize]; simp; omega) (by simp) cap (fun _ => hsize)
    (fun i x hx => by
      rw [List.getElem?_append] at hx
      split at hx
      · rename_i hi
        obtain ⟨v,q1,q2⟩:=ho.get hx
        refine ⟨v,?_,q2,hs1 x (List.mem_of_getElem? hx)⟩
        have:=(List.getElem?_eq_some_iff.1 q1).1
        rw [Array.append_assoc,Array.getElem?_append_left (by simpa using this)]; simpa using q1
      · rename_i hi
        obtain ⟨v,q1,q2⟩:=hw.get hx
        refine ⟨v,?_,q2,hs2 x (List.mem_of_getElem? hx)⟩
        have:=(List.getElem?_eq_some_iff.1 q1).1
        rw [Array.append_assoc,Array.getElem?_append_right (by simp; omega),Array.getElem?_append_left (by simp; omega)]
        simpa [← hl1] using q1) 1
  refine ⟨.slice (some ⟨c.w.heap.size,0,none⟩) need cap,c',a1,?_,?_,a5,a6⟩
  · rw [hrun,a2]
  · have hmu:c'.mu k'=c.w.heap.size:=congrArg Prod.fst a3
    rw [← hmu]
    exact .ref k' 0 need none cap a4 hcap (by simp) (fun _ _ => by rw [a3])
theorem appendA_sound {P E} (O:EnvOK P E) {base c} (H:HR base c) (hb:base ≤ c.w.heap.size) {lvl slot t s x r vs vx t2 τ2} {ts:Array TypeId} {ty:TypeId} {args:Array Value}
    (h:appendA E lvl slot c.h t s x=some r) (hvs:RV c s vs) (hvx:RV c x vx) (hts:ts[0]? = some t) (hts2:ts[1]? = some t2) (ht2:E.ty t2=some τ2) (hni:∀ k,τ2.d ≠ .int k)
    (h0:args[0]? = some vs) (h1:args[1]? = some vx):∃ v h',r=.val v h' ∧ Made P base c (Builtin.append_ ts ty args) v h':=by
  unfold appendA at h
  split at h
  case h_2 => cases h
  rename_i e _ _ _ _ ht
  split at h
  case h_2 => cases h
  rename_i τ ys n he hc
  split at h
  case isFalse => cases h
  rename_i hcnd
  obtain ⟨hyl,hys,hbytes⟩:=hcnd
  have hys':=List.all_eq_true.1 hys
  obtain ⟨us,u1,u2,u3⟩:=conts_sound P H hc hvx
  have hul:=u1.length
  have hnew:∀ w':World,w'.heap=c.w.heap → (Builtin.firstCells τ.size n vx).run P w'=.ok us.toArray w':=by
    intro w' hw'
    have:=u3 τ.size n hyl (Nat.le_refl _) w' hw'
    rwa [List.take_of_length_le (by omega)] at this
  split at h
  · rename_i f xs cap
    split at h
    · cases h
    rename_i cp
    have hlc:∃ a,vs=.slice a xs.length cp:=by
      cases hvs with
      | slE f a cap cap' g1 g2 g3 => exact ⟨a,by rw [g3 cp rfl]; rfl⟩
      | slC xs vs b off esz cap cap' g0 g1 g2 g3 g4 g5 g6 g7 => exact ⟨_,by rw [g7 cp rfl]⟩
    obtain ⟨a,rfl⟩:=hlc
    split at h
    · rename_i hroom
      split at h
      case isFalse => cases h
      rename_i hn0
      cases h
      subst hn0
      have us0:us=[]:=List.eq_nil_of_length_eq_zero (by omega)
      subst us0
      refine ⟨_,_,rfl,_,c,rfl,append_room O ht he hts hts2 ht2 hni h0 h1 u2 hroom (hnew c.w rfl) (w':=c.w) (fun a _ => by simp [storeCells]) (fun _ => rfl),?_,H,.refl _ _⟩
      simpa using hvs
    · rename_i hroom
      split at h
      case isFalse => cases h
      rename_i hcnd
      obtain ⟨k1,k2,k2b,k3⟩:=hcnd
      cases h
      obtain ⟨os,o1,o2,o3⟩:=conts_sound P (x:=.sl f xs (some cp)) (ys:=xs.flatMap AV.cells) (n:=xs.length) H rfl hvs
      have hol:=o1.length
      have hold:∀ w':World,w'.heap=c.w.heap → (Builtin.firstCells τ.size xs.length (.slice a xs.length cp)).run P w'=.ok os.toArray w':=by
        intro w' hw'
        have:=o3 τ.size xs.length k2 (Nat.le_refl _) w' hw'
        rwa [List.take_of_length_le (by omega)] at this
      have hscal:=List.all_eq_true.1 k2b
      obtain ⟨cap2,rest,r1,r2,r3⟩:=append_grow (P:=P) (ty:=ty) O ht he hts hts2 ht2 hni h0 h1 u2 (by omega) k1 hbytes hnew hold
      exact ⟨_,_,rfl,grown_made P H hb rfl o1 u1 hscal hys' (by rw [k2,hyl,Nat.add_mul]) r1 r2 e r3⟩
  · rename_i k off len cap
    split at h
    case h_2 => cases h
    rename_i o hk
    split at h
    case isFalse => cases h
    rename_i hcnd
    obtain ⟨l1,l2,l3,l4,l5,l6⟩:=hcnd
    cases hvs with
    | ref _ _ _ _ cap' g1 g2 g3 g4 =>
    obtain ⟨os,o1,o2,o3,o4⟩:=H.cells hk l1 off (len * o.esz) l6
    have hol:=o1.length
    have hold:∀ w':World,w'.heap=c.w.heap → (Builtin.firstCells τ.size len (.slice (some ⟨c.mu k,off,none⟩) len cap')).run P w'=.ok os.toArray w':=by
      intro w' hw'
      simp only [Builtin.firstCells]
      exact run_loadCells_at P _ off os w' _ (by rw [o2,l2]) fun j cell hj => by
        have:=o4 j cell hj
        simpa [World.cell?,hw'] using this
    split at h
    · rename_i cp
      have hcp:cap'=cp:=g3 cp rfl
      subst hcp
      split at h
      · rename_i hroom
        split at h
        case h_2 => cases h
        rename_i h2 hw
        cases h
        obtain ⟨c',a1,a2,a3,a4,a5⟩:=writeC_sound P H hw u1
        refine ⟨_,_,rfl,_,c',a1,append_room O ht he hts hts2 ht2 hni h0 h1 u2 hroom (hnew c.w rfl) (w':=c'.w) (fun a ha => by cases ha; rw [addr_add,← l2]; simpa using a3) (by simp),?_,a4,a5⟩
        have hmu:c.mu k=c'.mu k:=by unfold Cx.mu; rw [a2]
        rw [hmu]
        exact .ref k off _ _ _ (a5.vk k g1).1 hroom g3 (by simp)
      · rename_i hroom
        split at h
        case isFalse => cases h
        rename_i k1
        cases h
        obtain ⟨cap2,rest,r1,r2,r3⟩:=append_grow (P:=P) (ty:=ty) O ht he hts hts2 ht2 hni h0 h1 u2 (by omega) k1 hbytes hnew hold
        exact ⟨_,_,rfl,grown_made P H hb rfl o1 u1 o3 hys' (by rw [hol,o2,hyl,l2,Nat.add_mul]) r1 r2 e r3⟩
    · split at h
      case isFalse => cases h
      rename_i hcnd
      obtain ⟨k1,k2,k3,k4,k5⟩:=hcnd
      subst k2
      cases h
      have hcp:=g4 rfl rfl
      by_cases hroom:len + n ≤ cap'
      · have hm:(len + n) * o.esz ≤ (c.m k).2 * o.esz:=Nat.mul_le_mul_right _ (by omega)
        have hr2:o.cells.length + us.length ≤ (c.m k).2 * o.esz:=by
          have:(len + n) * o.esz=len * o.esz + n * o.esz:=Nat.add_mul _ _ _
          have h6:us.length=n * o.esz:=by rw [← hul,hyl,l2]
          omega
        obtain ⟨c',a1,a2,a3,a4,a5,a6⟩:=inplace_sound P H hk l1 k3 k4 u1 hys' hr2 (lvl:=lvl) (slot:=slot) rfl
        refine ⟨_,_,rfl,_,c',a1,append_room O ht he hts hts2 ht2 hni h0 h1 u2 hroom (hnew c.w rfl) (w':=c'.w) (fun a ha => by cases ha; rw [addr_add,← l2,← k5]; simpa using a4) (by simp),?_,a5,a6⟩
        rw [show c.mu k=c'.mu _ from (congrArg Prod.fst a2).symm]
        exact .ref _ 0 _ none _ a3 hroom (by simp) (fun _ _ => by rw [a2]; exact hcp)
      · obtain ⟨cap2,rest,r1,r2,r3⟩:=append_grow (P:=P) (ty:=ty) O ht he hts hts2 ht2 hni h0 h1 u2 (by omega) k1 hbytes hnew hold
        obtain ⟨c1,d1,d2,d3,d4,d5⟩:=dead_sound H hk
        have ho:(o.cells.drop 0).take (len * o.esz)=o.cells:=by rw [List.drop_zero,List.take_of_length_le (by omega)]
        rw [ho] at o1 o3
        have hb1:base ≤ c1.w.heap.size:=by rw [d2]; exact hb
        rw [← d2] at r3
        have hn:newK c1.h lvl slot (o.cells ++ ys) false o.esz o.eagg=(_,_):=rfl
        obtain ⟨v,c2,q1,q2,q3,q4,q5⟩:=grown_made P d4 hb1 hn (d5.rvs H o1) (d5.rvs H u1) o3 hys' (need:=len + n) (by rw [k5,hyl,l2,Nat.add_mul]) r1 (by rw [r2,l2]) e r3
        refine ⟨_,_,rfl,v,c2,?_,by rw [← d2]; exact q2,?_,q4,d5.trans q5 H⟩
        · rw [q1,d1]
        · rw [d1] at q3; exact q3
  · cases h
end Ab
/- Every operation of the evaluator is the model's. Own work, no conditions. -/
set_option linter.unusedVariables false
set_option linter.unusedSimpArgs false
namespace Ab
open Go
theorem copyA_sound {P E} (O:EnvOK P E) {base c} (H:HR base c) {t d s r vd vs} {ts:Array TypeId} {ty:TypeId} {args:Array Value} (h:copyA E c.h t d s=some r) (hd:RV c d vd) (hs:RV c s vs)
    (hts:ts[0]? = some t) (h0:args[0]? = some vd) (h1:args[1]? = some vs):∃ v h',r=.val v h' ∧ Made P base c (Builtin.copy_ ts ty args) v h':=by
  unfold copyA at h
  split at h
  case h_2 => cases h
  rename_i e _ _ _ _ ht
  have hu:=under_slice O ht
  split at h
  · rename_i τ ys n k off len _ he hc
    split at h
    case isFalse => cases h
    rename_i hyl
    simp only at h
    split at h
    case h_2 => cases h
    rename_i h2 hw
    cases h
    obtain ⟨us,u1,u2,u3⟩:=conts_sound P H hc hs
    have hul:=u1.length
    cases hd with
    | ref _ _ _ _ cap' g1 g2 g3 g4 =>
    obtain ⟨c',a1,a2,a3,a4,a5⟩:=writeC_sound P H hw (u1.take _)
    refine ⟨_,_,rfl,.int .i64 (min n len:Nat),c',a1,?_,.int _ _,a4,a5⟩
    unfold Builtin.copy_
    simp only [hts,h0,h1,Sem.run_bind,run_underlying hu,Result.andThen_ok,u2,run_size O he,Sem.run_pure]
    have:=u3 τ.size (min n len) hyl (Nat.min_le_left _ _) c.w rfl
    rw [show n.min len=min n len from rfl,this]
    simp only [Result.andThen_ok,Sem.run_bind]
    rw [a3]
    simp [goInt]
  · rename_i τ ys n f cap he hc
    cases h
    obtain ⟨us,u1,u2,u3⟩:=conts_sound P H hc hs
    cases hd with
    | slE f a _ cap' g1 g2 g3 =>
    refine ⟨_,_,rfl,.int .i64 0,c,rfl,?_,.int _ _,H,.refl _ _⟩
    unfold Builtin.copy_
    simp only [hts,h0,h1,Sem.run_bind,run_underlying hu,Result.andThen_ok,u2,run_size O he,Sem.run_pure]
    have hn:n.min 0=0:=Nat.min_zero n
    rw [hn]
    have hf:(Builtin.firstCells τ.size 0 vs).run P c.w=.ok #[] c.w:=by
      cases vs with
      | slice b _ _ => cases b <;> simp [Builtin.firstCells,loadCells,loadCellsFrom]
      | string s =>
        simp only [Builtin.firstCells,Sem.run_pure]
        congr 1
        apply Array.ext'
        simp [ByteArray.data_extract]
      | _ => cases hs <;> simp [Builtin.lenOf] at u2
    rw [hf]
    cases a <;> simp [storeCells,goInt]
    | slC _ _ _ _ _ _ _ hne => exact absurd rfl hne
  · cases h
theorem builtinA_sound {P E} (O:EnvOK P E) {base c} (H:HR base c) (hb:base ≤ c.w.heap.size) {lvl slot b as r} {vs:Array Value} {ts:Array TypeId} {ty:TypeId} {cs:Array Bool} {vl:List Value}
    (h:builtinA E lvl slot c.h b ts.toList as=some r) (heqv:vs.toList=vl) (hv:RVs c as vl) :
    ∃ v h',r=.val v h' ∧ ∃ val c',c'.h=h' ∧ (builtin b ts ty cs vs).run P c.w=.ok (.value val) c'.w ∧ RV c' v val ∧ HR base c' ∧ Ext base c c':=by
  have wrap:∀ {s:Sem Value} {v h'},Made P base c s v h' → ∃ val c',c'.h=h' ∧ (do pure (Next.value (← s)):Sem Next).run P c.w=.ok (.value val) c'.w ∧ RV c' v val ∧ HR base c' ∧ Ext base c c':=by
    rintro s v h' ⟨val,c',a1,a2,a3,a4,a5⟩
    exact ⟨val,c',a1,by simp [a2],a3,a4,a5⟩
  have comp:∀ {s:Sem Value} {v},Comp P c s v → ∃ val c',c'.h=c.h ∧ (do pure (Next.value (← s)):Sem Next).run P c.w=.ok (.value val) c'.w ∧ RV c' v val ∧ HR base c' ∧ Ext base c c':=fun hc => wrap (hc.made H)
  unfold builtinA at h
  split at h
  · rename_i t _ x _ heq
    have hts:ts[0]? = some t:=by rw [← Array.getElem?_toList,heq]; rfl
    cases hv with
    | cons _ vx _ vr hx hr =>
    have h0:vs[0]? = some vx:=by rw [← Array.getElem?_toList,heqv]; rfl
    split at h
    · rename_i ht
      cases h
      refine ⟨_,_,rfl,comp ?_⟩
      cases hx with
      | slE => exact ⟨_,by simp [Builtin.len_,hts,h0,run_underlying (under_slice O ht),goInt],.int _ _⟩
      | slC => exact ⟨_,by simp [Builtin.len_,hts,h0,run_underlying (under_slice O ht),goInt],.int _ _⟩
    · rename_i ht
      cases h
      refine ⟨_,_,rfl,comp ?_⟩
      cases hx
      exact ⟨_,by simp [Builtin.len_,hts,h0,run_underlying (under_slice O ht),goInt],.int _ _⟩
    · rename_i ht
      cases h
      refine ⟨_,_,rfl,comp ?_⟩
      cases hx with
      | str _ s e1 =>
        subst e1
        exact ⟨.int .i64 s.size,by simp [Builtin.len_,hts,h0,run_underlying (under_str O ht),goInt],by simpa using RV.int .i64 s.size⟩
    · rename_i ht
      cases h
      refine ⟨_,_,rfl,comp ?_⟩
      exact ⟨_,by simp [Builtin.len_,hts,h0,run_underlying (under_arr O ht),goInt],.int _ _⟩
    · cases h
  · rename_i t _ x _ heq
    have hts:ts[0]? = some t:=by rw [← Array.getElem?_toList,heq]; rfl
    cases hv with
    | cons _ vx _ vr hx hr =>
    have h0:vs[0]? = some vx:=by rw [← Array.getElem?_toList,heqv]; rfl
    split at h
    · rename_i cc ht
      cases h
      refine ⟨_,_,rfl,comp ?_⟩
      cases hx with
      | slE _ _ _ cap' _ _ g => exact ⟨_,by simp [Builtin.cap_,hts,h0,run_underlying (under_slice O ht),goInt,g cc rfl],.int _ _⟩
      | slC _ _ _ _ _ _ cap' _ _ _ _ _ _ _ g => exact ⟨_,by simp [Builtin.cap_,hts,h0,run_underlying (under_slice O ht),goInt,g cc rfl],.int _ _⟩
    · rename_i cc ht
      cases h
      refine ⟨_,_,rfl,comp ?_⟩
      cases hx with
      | ref _ _ _ _ cap' _ _ g => exact ⟨_,by simp [Builtin.cap_,hts,h0,run_underlying (under_slice O ht),goInt,g cc rfl],.int _ _⟩
    · cases h
  · rename_i t t2 _ s x _ heq
    have hts:ts[0]? = some t:=by rw [← Array.getElem?_toList,heq]; rfl
    have hts2:ts[1]? = some t2:=by rw [← Array.getElem?_toList,heq]; rfl
    cases hv with
    | cons _ v0 _ vr hx hr =>
    cases hr with
    | cons _ v1 _ vr2 hx1 hr2 =>
    have h0:vs[0]? = some v0:=by rw [← Array.getElem?_toList,heqv]; rfl
    have h1:vs[1]? = some v1:=by rw [← Array.getElem?_toList,heqv]; rfl
    split at h
    · rename_i ht2
      obtain ⟨v,h',e1,e2⟩:=appendA_sound (ty:=ty) O H hb h hx hx1 hts hts2 ht2 (by simp) h0 h1
      exact ⟨v,h',e1,wrap e2⟩
    · rename_i ht2
      obtain ⟨v,h',e1,e2⟩:=appendA_sound (ty:=ty) O H hb h hx hx1 hts hts2 ht2 (by simp) h0 h1
      exact ⟨v,h',e1,wrap e2⟩
    · cases h
  · rename_i t _ d s _ heq
    have hts:ts[0]? = some t:=by rw [← Array.getElem?_toList,heq]; rfl
    cases hv with
    | cons _ v0 _ vr hx hr =>
    cases hr with
    | cons _ v1 _ vr2 hx1 hr2 =>
    have h0:vs[0]? = some v0:=by rw [← Array.getElem?_toList,heqv]; rfl
    have h1:vs[1]? = some v1:=by rw [← Array.getElem?_toList,heqv]; rfl
    obtain ⟨v,h',e1,e2⟩:=copyA_sound (ty:=ty) O H h hx hx1 hts h0 h1
    exact ⟨v,h',e1,wrap e2⟩
  · rename_i k a k' b
    split at h
    case isFalse => cases h
    rename_i hk
    cases h
    refine ⟨_,_,rfl,comp ?_⟩
    cases hv with
    | cons _ v0 _ vr hx hr =>
    cases hr with
    | cons _ v1 _ vr2 hx1 hr2 =>
    cases hr2
    cases hx; cases hx1
    refine ⟨_,?_,.int _ _⟩
    simp [Builtin.min_,heqv,Builtin.min2]
  · rename_i k a k' b
    split at h
    case isFalse => cases h
    rename_i hk
    cases h
    refine ⟨_,_,rfl,comp ?_⟩
    cases hv with
    | cons _ v0 _ vr hx hr =>
    cases hr with
    | cons _ v1 _ vr2 hx1 hr2 =>
    cases hr2
    cases hx; cases hx1
    refine ⟨_,?_,.int _ _⟩
    simp [Builtin.max_,heqv,Builtin.max2]
  · cases h
end Ab
/- One operation of the evaluator is the model's. Own work, no conditions. -/
set_option linter.unusedVariables false
set_option linter.unusedSimpArgs false
namespace Ab
open Go
def OpS (P:Program) (base:Nat) (c:Cx) (s:Sem Next):OpR → Prop
  | .val v h' => ∃ val c',c'.h=h' ∧ s.run P c.w=.ok (.value val) c'.w ∧ RV c' v val ∧ HR base c' ∧ Ext base c c'
  | .skip h' => ∃ c',c'.h=h' ∧ s.run P c.w=.ok .skip c'.w ∧ HR base c' ∧ Ext base c c'
  | .call f args => ∃ vals:List Value,s.run P c.w=(callFunc f ⟨vals⟩).run P c.w ∧ RVs c args vals
  | .panic v => ∃ val,s.run P c.w=.halt (.panic val) c.w ∧ RV c v val
theorem Made.op {P base c s v h'} (h:Made P base c s v h'):OpS P base c (do pure (Next.value (← s))) (.val v h'):=by
  obtain ⟨val,c',a1,a2,a3,a4,a5⟩:=h
  exact ⟨val,c',a1,by simp [a2],a3,a4,a5⟩
theorem Comp.op {P base c s v} (h:Comp P c s v) (H:HR base c):OpS P base c (do pure (Next.value (← s))) (.val v c.h):=(h.made H).op
theorem strbytes_sound {P E} (O:EnvOK P E) {base c} (H:HR base c) (hb:base ≤ c.w.heap.size) {lvl slot src dst e l a b z m v h' k'} {z1:List AV} {m1:Bool} (hd:E.ty dst=some ⟨.slice e,a,b,z,m⟩) (he:E.ty e=some ⟨.int .u8,1,1,z1,m1⟩) (hs:(P.underlying src).isSome=true) (hv:RV c (.str l) v)
    (hn:newK c.h lvl slot (l.map (AV.int .u8)) false 1 false=(h',k')):Made P base c (convert src dst v) (.ref k' 0 l.length none) h':=by
  cases hv with
  | str _ s e1 =>
  subst e1
  obtain ⟨ds,hds⟩:=Option.isSome_iff_exists.1 hs
  let cap:=(Question.appendCap s.size 0 e).cut (c.w.tape c.w.drawn (.appendCap s.size 0 e))
  have hcap:s.size ≤ cap:=by show _ ≤ _ + _; omega
  let elems:Array Value:=s.data.map fun b => .int .u8 b.toNat
  let arr:Array Value:=elems ++ Array.replicate (cap - s.size) (.int .u8 0)
  have hsz:arr.size=cap:=by simp [arr,elems]; omega
  have hls:(s.data.toList.map fun b => (b.toNat:Int)).length=s.size:=by simp
  obtain ⟨c',a1,a2,a3,a4,a5,a6⟩:=newK_sound H hb hn arr e (arr.size,arr.size + 1) (fun i hi => by simp; omega) (by simp only [List.length_map,hls]; rw [hsz]; simpa using hcap) (by simp) cap (fun _ => by rw [hsz]; omega)
    (fun i x hx => by
      simp only [List.getElem?_map,Option.map_map] at hx
      cases e:s.data.toList[i]? with
      | none => rw [e] at hx; cases hx
      | some b =>
        rw [e] at hx; cases hx
        refine ⟨.int .u8 b.toNat,?_,.int _ _,rfl⟩
        have hlt:i < s.data.size:=by have:=(List.getElem?_eq_some_iff.1 e).1; simpa using this
        rw [Array.getElem?_append_left (by simpa [elems] using hlt)]
        simp only [elems,Array.getElem?_map]
        rw [← Array.getElem?_toList,e]; rfl) 1
  have hmu:c'.mu k'=c.w.heap.size:=congrArg Prod.fst a3
  rw [hls]
  refine ⟨.slice (some ⟨c.w.heap.size,0,none⟩) s.size cap,c',a1,?_,?_,a5,a6⟩
  · simp only [convert,Sem.run_bind,run_underlying hds,run_underlying (under_slice O hd),run_underlying (under_int O he),Result.andThen_ok]
    rw [a2]
    have hmark:∀ w:World,w.heap[c.w.heap.size]? = some (.cells arr e (0,0)) → (markStringish ⟨c.w.heap.size,0,none⟩).run P w=.ok () (w.freeze ⟨c.w.heap.size,arr.size,none⟩ 1):=by
      intro w hw
      simp [markStringish,World.shape?,hw]
    have hpush:∀ W:World,W.heap=c.w.heap.push (Obj.cells arr e) → W.freeze ⟨c.w.heap.size,arr.size,none⟩ 1 = { W with heap:=c.w.heap.push (.cells arr e (arr.size,arr.size + 1)) }:=by
      intro W hW
      simp only [World.freeze,Nat.one_ne_zero,if_false,hW]
      congr 1
      apply Array.ext_getElem?
      intro i
      rw [Array.getElem?_modify,Array.getElem?_push,Array.getElem?_push]
      by_cases hi:i=c.w.heap.size
      · subst hi; simp
      · simp [hi]
        intro h; exact absurd h.symm hi
    cases ds <;>
    · simp only [Conv.stringToBytes,Sem.run_bind,run_choose,Question.forced,Result.andThen_ok,Bool.false_eq_true,if_false,newRow,run_newObj,Sem.run_pure]
      rw [hmark _ (by simp [arr,elems,cap]),hpush _ rfl]
      rfl
  · rw [← hmu]
    exact .ref k' 0 _ none cap a4 hcap (by simp) (fun _ _ => by rw [a3])
end Ab
/- One operation of the evaluator is the model's. Own work, no conditions. -/
set_option linter.unusedVariables false
set_option linter.unusedSimpArgs false
namespace Ab
open Go
theorem map_some {α β} {f:α → β} {o:Option α} {b:β} (h:o.map f=some b):∃ a,o=some a ∧ f a=b:=by
  cases o with
  | none => cases h
  | some a => exact ⟨a,rfl,Option.some.inj h⟩
theorem sealA_of_pure {n:Nat} {h:Heap} {x:AV} (hp:x.pure=true):sealA (n + 1) h x=some (x,h):=by
  unfold sealA; rw [if_pos hp]
theorem sealL_of_pure (n:Nat):∀ (l:List AV) (h:Heap),AV.pureL l=true → sealLW (sealA (n + 1)) h l=some (l,h)
  | [],h,_ => rfl
  | x :: l,h,hl => by
    simp only [AV.pureL,Bool.and_eq_true] at hl
    simp only [sealLW,sealA_of_pure hl.1,sealL_of_pure n l h hl.2]
theorem Made.frozen {P base c s lvl slot cs esz eagg len} (H:HR base c) (M:Made P base c s (.ref (newK c.h lvl slot cs true esz eagg).2 0 len (some len)) (newK c.h lvl slot cs true esz eagg).1) (hp:AV.pureL cs=true) (hl:len * esz ≤ cs.length) (ha:eagg=false → esz=1) :
    Made P base c s (.sl false (chunk eagg esz len (cs.take (len * esz))) (some len)) (setK (newK c.h lvl slot cs true esz eagg).1 (newK c.h lvl slot cs true esz eagg).2 ⟨cs,true,false,true,esz,eagg⟩):=by
  obtain ⟨v,c',a1,a2,a3,a4,a5⟩:=M
  have hpt:AV.pureL (cs.take (len * esz))=true:=by
    rw [AV.pureL_all] at hp ⊢
    exact fun x hx => hp x (List.mem_of_mem_take hx)
  have e:sealA 2 c'.h (.ref (newK c.h lvl slot cs true esz eagg).2 0 len (some len))=some (.sl false (chunk eagg esz len (cs.take (len * esz))) (some len),setK (newK c.h lvl slot cs true esz eagg).1 (newK c.h lvl slot cs true esz eagg).2 ⟨cs,true,false,true,esz,eagg⟩):=by
    rw [a1]
    unfold sealA
    simp only [AV.pure,Bool.false_eq_true,if_false,newK,lookK_setK,if_true,Nat.zero_add,List.drop_zero]
    rw [if_pos ⟨trivial,hl,ha⟩,sealL_of_pure 0 _ _ hpt]
  obtain ⟨c2,b1,b2,b3,b4,b5,b6⟩:=sealA_sound base 2 c' _ _ _ v e a4 a3
  exact ⟨v,c2,b1,by rw [b2]; exact a2,b6,b4,a5.trans b5 H⟩
theorem parts_zip {a:Act} (parts:Array (Nat × Operand)):(parts.map fun (i,x) => (i,a.eval x)).toList=(parts.toList.map (·.1)).zip ((parts.toList.map (·.2)).map a.eval):=by
  rw [Array.toList_map,List.map_map]
  have:∀ l:List (Nat × Operand),(l.map fun (i,x) => (i,a.eval x))=(l.map (·.1)).zip (l.map (a.eval ∘ (·.2))):=by
    intro l
    induction l with
    | nil => rfl
    | cons p r ih => simp [ih]
  exact this _
theorem build_strct {P E} (O:EnvOK P E) {c:Cx} {ty fs a b z m} {is:List Nat} {xs:List AV} {vs:List Value} {cs} (ht:E.ty ty=some ⟨.strct fs,a,b,z,m⟩) (hil:is.length=xs.length)
    (hf:fillA (fun i => match fs[i]? with | some (off,ft) => (E.ty ft).map fun τ => (off,τ.size) | none => none) z (is.zip xs)=some cs) (hv:RVs c xs vs) (parts:Array (Nat × Value)) (hp:parts.toList=is.zip vs)
    (hall:fs.all (fun p => (E.ty p.2).isSome)=true) :
    Comp P c (Instr.build ty parts) (.agg cs):=by
  obtain ⟨i,zv,i1,i2,i3,i4,i5,i6,i7⟩:=zero_info O ht
  obtain ⟨Fs,hu,hfs⟩:=under_strct O ht
  have hpx:(is.zip xs).map (·.2)=xs:=by rw [List.map_snd_zip]; omega
  have hpi:(is.zip xs).map (·.1)=is:=by rw [List.map_fst_zip]; omega
  obtain ⟨arr',f1,f2,f3⟩:=fill_sound (c:=c) (vs:=vs) hf (i5 c) (by rw [hpx]; exact hv) i6
  rw [hpi] at f1
  refine ⟨.agg arr',?_,by simpa using RV.agg _ _ f2 f3⟩
  have hpl:∀ (l:List (Nat × TypeId)) (Fl:List Field),(Fl.map fun f => (f.offset,f.type))=l → l.all (fun p => (E.ty p.2).isSome)=true →
      ∃ places,Fl.mapM (fun f => (P.info? f.type).map fun i => (f.offset,i.size))=some places ∧ ∀ i:Nat,places[i]? = (match l[i]? with | some (off,ft) => (E.ty ft).map fun τ => (off,τ.size) | none => none):=by
    intro l Fl
    induction Fl generalizing l with
    | nil => intro h _; subst h; exact ⟨[],by simp,by simp⟩
    | cons f Fl ih =>
      intro h hl
      subst h
      simp only [List.map_cons,List.all_cons,Bool.and_eq_true] at hl
      obtain ⟨τ,hτ⟩:=Option.isSome_iff_exists.1 hl.1
      obtain ⟨places,p1,p2⟩:=ih _ rfl hl.2
      obtain ⟨j,_,j1,j2,_⟩:=(O.ty _ _ hτ).info
      refine ⟨(f.offset,τ.size) :: places,by simp [List.mapM_cons,j1,j2,p1],fun i => ?_⟩
      cases i with
      | zero => simp [hτ]
      | succ i => simpa using p2 i
  obtain ⟨places,p1,p2⟩:=hpl fs Fs.toList hfs hall
  refine run_build c.w ty parts arr' ?_
  have hfun:(fun i => match fs[i]? with | some (off,ft) => (E.ty ft).map fun τ => (off,τ.size) | none => none)=(fun i:Nat => places.toArray[i]?):=by
    funext i
    simpa using (p2 i).symm
  rw [hfun] at f1
  unfold Program.built
  simp only [i1,hu,i2,p1,hp]
  exact f1
theorem build_arr {P E} (O:EnvOK P E) {c:Cx} {ty n e a b z m τ} {is:List Nat} {xs:List AV} {vs:List Value} {cs} (ht:E.ty ty=some ⟨.arr n e,a,b,z,m⟩) (he:E.ty e=some τ) (hil:is.length=xs.length)
    (hf:fillA (fun i => some (i * τ.size,τ.size)) z (is.zip xs)=some cs) (hv:RVs c xs vs) (parts:Array (Nat × Value)) (hp:parts.toList=is.zip vs) :
    Comp P c (Instr.build ty parts) (.agg cs):=by
  obtain ⟨i,zv,i1,i2,i3,i4,i5,i6,i7⟩:=zero_info O ht
  obtain ⟨j,_,j1,j2,_⟩:=(O.ty _ _ he).info
  have hpx:(is.zip xs).map (·.2)=xs:=by rw [List.map_snd_zip]; omega
  have hpi:(is.zip xs).map (·.1)=is:=by rw [List.map_fst_zip]; omega
  obtain ⟨arr',f1,f2,f3⟩:=fill_sound (c:=c) (vs:=vs) hf (i5 c) (by rw [hpx]; exact hv) i6
  rw [hpi] at f1
  refine ⟨.agg arr',?_,by simpa using RV.agg _ _ f2 f3⟩
  refine run_build c.w ty parts arr' ?_
  unfold Program.built
  simp only [i1,under_arr O ht,i2,j1,j2,hp]
  exact f1
theorem aOp_sound {P E} (O:EnvOK P E) {base c n t} {a:Act} {lvl o r} (h:aOp E lvl t c.h o=some r) (H:HR base c) (hb:base ≤ c.w.heap.size) (G:GOK E c) (F:FR c n t a.tmps):OpS P base c (execOp a.eval o) r:=by
  unfold aOp at h
  unfold execOp
  split at h
  · rename_i x e; simp only [e]
    obtain ⟨v,h1,rfl⟩:=map_some h
    exact ⟨_,c,rfl,rfl,opd_sound G F h1,H,.refl _ _⟩
  · rename_i x e; simp only [e]
    obtain ⟨v,h1,rfl⟩:=map_some h
    exact ⟨_,c,rfl,rfl,opd_sound G F h1,H,.refl _ _⟩
  · rename_i cc x y e; simp only [e]
    split at h
    case h_2 => cases h
    rename_i r hc
    obtain ⟨v,h1,rfl⟩:=map_some h
    have hcv:=opd_sound G F hc
    generalize a.eval cc=vc at hcv
    cases hcv
    have:=opd_sound G F h1
    refine ⟨_,c,rfl,by simp [asBool]; rfl,?_,H,.refl _ _⟩
    cases r <;> simpa using this
  · rename_i ty e; simp only [e]
    split at h
    case h_2 => cases h
    rename_i τ hτ
    cases h
    exact (alloc_sound O H hb hτ rfl).op
  · rename_i ty x e; simp only [e]
    split at h
    case h_2 => cases h
    rename_i τ v hτ hv
    split at h
    case isFalse => cases h
    rename_i hs
    cases h
    exact (box_sound H hb (opd_sound G F hv) hs rfl).op
  · rename_i ty parts e; simp only [e]
    split at h
    · rename_i fs _ _ zero _ vs hτ hv
      split at h
      · cases h
      rename_i hall
      obtain ⟨cs,h1,rfl⟩:=map_some h
      have hvs:=opdL_sound G F hv
      exact (build_strct O hτ (by have:=hvs.length; simp at this ⊢; omega) h1 hvs _ (parts_zip parts) (by cases hq:fs.all (fun p => (E.ty p.2).isSome) with | true => rfl | false => exact absurd hq hall)).op H
    · rename_i n e' _ _ zero _ vs hτ hv
      split at h
      case h_2 => cases h
      rename_i τ he
      obtain ⟨cs,h1,rfl⟩:=map_some h
      have hvs:=opdL_sound G F hv
      exact (build_arr O hτ he (by have:=hvs.length; simp at this ⊢; omega) h1 hvs _ (parts_zip parts)).op H
    · cases h
  · rename_i ty len parts e; simp only [e]
    split at h
    case h_2 => cases h
    rename_i e' _ _ _ _ vs hτ hv
    split at h
    case h_2 => cases h
    rename_i τ he
    split at h
    case isFalse => cases h
    rename_i hcnd
    obtain ⟨k1,k2,k3,k4⟩:=hcnd
    split at h
    case h_2 => cases h
    rename_i cs hf
    have hvs:=opdL_sound G F hv
    have made:=fun h' k' hn => buildSlice_sound (lvl:=lvl) (slot:=o.dst.getD 0) (h':=h') (k':=k') O H hb hτ he k1 k2 k3 (by have:=hvs.length; simp at this ⊢; omega) hf hvs hn _ (parts_zip parts)
    split at h
    · rename_i hz
      cases h
      exact (Made.frozen H (made _ _ rfl) hz.2.1 hz.2.2 (fun q => k4.resolve_right (by simp [q]))).op
    cases h
    exact (made _ _ rfl).op
  · rename_i ty p e; simp only [e]
    split at h
    case h_2 => cases h
    rename_i τ pv hτ hp
    split at h
    case h_2 => cases h
    rename_i cs hr
    obtain ⟨v,h1,rfl⟩:=map_some h
    exact (load_sound O H hτ hr h1 (opd_sound G F hp)).op H
  · rename_i ty p x e; simp only [e]
    split at h
    case h_2 => cases h
    rename_i τ key off v hτ hp hx
    split at h
    case isFalse => cases h
    rename_i hl
    obtain ⟨h',h1,rfl⟩:=map_some h
    have hpv:=opd_sound G F hp
    generalize a.eval p=vp at hpv
    cases hpv with
    | ptr _ _ g1 =>
    obtain ⟨c',a1,a2,a3,a4⟩:=store_sound O H hτ hl h1 (opd_sound G F hx) g1
    exact ⟨c',a1,by simp [a2],a3,a4⟩
  · rename_i x e; simp only [e]
    split at h
    · rename_i k off hx
      cases h
      have hv:=opd_sound G F hx
      generalize a.eval x=v at hv
      cases hv with
      | ptr _ _ g => exact ⟨_,c,rfl,rfl,.ptr _ _ g,H,.refl _ _⟩
    · rename_i cs hx
      cases h
      have hv:=opd_sound G F hx
      generalize a.eval x=v at hv
      cases hv with
      | pel _ vs b off g1 g2 g3 g4 g5 => exact ⟨_,c,rfl,rfl,.pel _ vs b off g1 g2 g3 g4 g5,H,.refl _ _⟩
    · rename_i f fa fb hx
      cases h
      have hv:=opd_sound G F hx
      generalize a.eval x=v at hv
      cases hv with
      | fn _ _ _ va vb g1 g2 => exact ⟨_,c,rfl,rfl,.fn _ _ _ va vb g1 g2,H,.refl _ _⟩
    · cases h
  · rename_i op ty x y _ e; simp only [e]
    split at h
    case h_2 => cases h
    rename_i u v hx hy
    obtain ⟨r',h1,rfl⟩:=map_some h
    exact (binA_sound O h1 (opd_sound G F hx) (opd_sound G F hy)).op H
  · rename_i op _ x e; simp only [e]
    split at h
    case h_2 => cases h
    rename_i u hx
    obtain ⟨r',h1,rfl⟩:=map_some h
    exact (unA_sound h1 (opd_sound G F hx)).op H
  · rename_i src dst x e; simp only [e]
    split at h
    case h_2 => cases h
    rename_i u hx
    split at h
    · rename_i e' _ _ _ _ l hs hd
      split at h
      case h_2 => cases h
      rename_i he
      cases h
      obtain ⟨ds,hds,_⟩:=under_of O hs
      exact (strbytes_sound O H hb hd he (by rw [hds]; rfl) (opd_sound G F hx) rfl).op
    · obtain ⟨r',h1,rfl⟩:=map_some h
      exact (convA_sound O H h1 (opd_sound G F hx)).op H
  · rename_i ty x e; simp only [e]
    split at h
    · cases h
    · rename_i τ v hni hτ hx
      cases h
      obtain ⟨d,hd1,hd2⟩:=under_of O hτ
      refine Comp.op ⟨.iface ty (a.eval x),?_,.iface _ _ _ (opd_sound G F hx)⟩ H
      have:∀ ms,d ≠ .interface ms:=by
        rintro ms rfl
        cases hτd:τ.d <;> simp [dOK,hτd] at hd2
        cases τ
        simp only at hτd
        subst hτd
        exact hni _ _ _ _ _ rfl
      cases d <;> simp [Instr.makeInterface,run_underlying hd1] at this ⊢
    · cases h
  · rename_i f first cap e; simp only [e]
    split at h
    case h_2 => cases h
    rename_i u v hx hy
    cases h
    refine Comp.op ⟨_,rfl,?_⟩ H
    have:=RV.fn f u v _ _ (opdL_sound G F hx) (opdL_sound G F hy)
    have e1:first.map a.eval=⟨first.toList.map a.eval⟩:=by apply Array.ext'; simp
    have e2:cap.map a.eval=⟨cap.toList.map a.eval⟩:=by apply Array.ext'; simp
    rw [e1,e2]; exact this
  · rename_i ty l cc e; simp only [e]
    split at h
    case h_2 => cases h
    rename_i e' _ _ _ _ l' c' hτ hl hcv
    split at h
    case h_2 => cases h
    rename_i τ he
    split at h
    case isFalse => cases h
    rename_i hcnd
    obtain ⟨k1,k2,k3,k4,k5,k6,k7⟩:=hcnd
    have h1:=opd_sound G F hl
    have h2:=opd_sound G F hcv
    generalize a.eval l=vl at h1
    generalize a.eval cc=vc at h2
    split at h
    · rename_i hz
      obtain ⟨_,rfl,hp⟩:=hz
      cases h
      cases h1; cases h2
      have ln:∀ n:Nat,((List.replicate n τ.zero).flatten).length=n * τ.size:=by
        intro n
        induction n with
        | zero => simp
        | succ n ih => rw [List.replicate_succ,List.flatten_cons,List.length_append,ih,k5,Nat.add_mul,Nat.one_mul,Nat.add_comm]
      exact (Made.frozen H (makeSlice_sound O H hb hτ he k1 k2 k3 k4 k5 k6 rfl) hp (by rw [ln]; exact Nat.le_refl _) (fun q => k7.resolve_right (by simp [q]))).op
    cases h
    cases h1; cases h2
    exact (makeSlice_sound O H hb hτ he k1 k2 k3 k4 k5 k6 rfl).op
  · rename_i ty x lo hi mx e; simp only [e]
    split at h
    case h_2 => cases h
    rename_i xv l hh m hx hl hhh hm
    obtain ⟨r',h1,rfl⟩:=map_some h
    have orv:∀ {q:Option Operand} {y},(q.map (opd E t)).getD (some .nilp)=some y → ORV c (q.map fun _ => y) (q.map a.eval):=by
      intro q y hq
      cases q with
      | none => exact .none
      | some q => exact .some _ _ (opd_sound G F (by simpa using hq))
    exact (sliceA_sound O H h1 (opd_sound G F hx) (orv hl) (orv hhh) (orv hm)).op H
  · rename_i ty x f e; simp only [e]
    split at h
    case h_2 => cases h
    rename_i u hx
    obtain ⟨r',h1,rfl⟩:=map_some h
    exact (fieldAddr_sound O H h1 (opd_sound G F hx)).op H
  · rename_i ty x f e; simp only [e]
    split at h
    case h_2 => cases h
    rename_i u hx
    obtain ⟨r',h1,rfl⟩:=map_some h
    exact (field_sound O h1 (opd_sound G F hx)).op H
  · rename_i ty x i e; simp only [e]
    split at h
    case h_2 => cases h
    rename_i u v hx hi
    obtain ⟨r',h1,rfl⟩:=map_some h
    exact (indexAddr_sound O H h1 (opd_sound G F hx) (opd_sound G F hi)).op H
  · rename_i ty x i e; simp only [e]
    split at h
    case h_2 => cases h
    rename_i u v hx hi
    obtain ⟨r',h1,rfl⟩:=map_some h
    exact (index_sound O h1 (opd_sound G F hx) (opd_sound G F hi)).op H
  · rename_i x i e; simp only [e]
    split at h
    case h_2 => cases h
    rename_i vs hx
    obtain ⟨r',h1,rfl⟩:=map_some h
    have hv:=opd_sound G F hx
    generalize a.eval x=v at hv
    cases hv with
    | tup _ us g =>
    obtain ⟨u,q1,q2⟩:=g.get h1
    exact Comp.op ⟨u,by simp [Instr.extract,q1],q2⟩ H
  · rename_i cl e; simp only [e]
    split at h
    · rename_i f args hcal hargs
      split at h
      case h_2 => cases h
      rename_i g first cap hf
      have hv:=opd_sound G F hf
      generalize hfv:a.eval f=v at hv
      cases hv with
      | fn _ _ _ va vb g1 g2 =>
      have hvs:=opdL_sound G F hargs
      have hrun:(do let d ← resolve a.eval cl o.type; invoke d.target d.args:Sem Next).run P c.w=(callFunc g ⟨va ++ cl.args.toList.map a.eval ++ vb⟩).run P c.w:=by
        simp only [resolve,hcal,hfv,Deferred.ofValue,Sem.run_bind,Sem.run_pure,Result.andThen_ok,invoke]
        congr 2
        apply Array.ext'
        simp
      have hall:=(g1.append hvs).append g2
      unfold callA at h
      split at h
      · rename_i hx
        obtain ⟨r',h1,rfl⟩:=map_some h
        obtain ⟨Fx,x1,x2,x3,x4,x5⟩:=O.ext g hx
        unfold extA at h1
        split at h1
        case h_2 => cases h1
        rename_i fa xs ca fb ys cb heq
        split at h1
        case h_2 => cases h1
        rename_i la lb ha hb2
        cases h1
        rw [heq] at hall
        generalize hvv:va ++ cl.args.toList.map a.eval ++ vb=vv at hall hrun
        cases hall with
        | cons _ u _ us k1 k2 =>
        cases k2 with
        | cons _ u2 _ us2 k3 k4 =>
        cases k4
        obtain ⟨b1,p1,p2⟩:=bytesOf_sound (P:=P) H k1 ha
        obtain ⟨b2,p3,p4⟩:=bytesOf_sound (P:=P) H k3 hb2
        refine ⟨.int .i64 (cmpI la lb),c,rfl,?_,.int _ _,H,.refl _ _⟩
        rw [hrun]
        have x3':¬ (Fx.name = "runtime.NumGoroutine"):=by simpa using x3
        simp only [callFunc,Sem.run_bind,run_program,Result.andThen_ok,x1,x3',if_false,x2,Option.isNone_none,if_true,x4,x5]
        have hm:(Sem.run P (Sem.mark (Mark.extern g) (Sem.pure ())) c.w)=.ok () c.w:=rfl
        simp [mark,compare_two,goInt,cmp_bytes,x3',hm,p1,p3,p2,p4]
      · cases h
        exact ⟨_,hrun,hall⟩
    · rename_i b args hcal hargs
      have hvs:=opdL_sound G F hargs
      obtain ⟨r0,h0,hz⟩:=frzB_some h
      obtain ⟨v,h',rfl,val,c',a1,a2,a3,a4,a5⟩:=builtinA_sound (ty:=o.type) (cs:=cl.args.map fun | .const _ => true | _ => false) O H hb h0 (vs:=cl.args.map a.eval) (by simp) hvs
      rcases hz with ⟨rfl,_⟩ | ⟨_,k,len,ob,h'',e0,z1,z2,z3,z4,z5,rfl⟩
      · refine ⟨val,c',a1,?_,a3,a4,a5⟩
        simp only [resolve,hcal,Sem.run_bind,Sem.run_pure,Result.andThen_ok,invoke]
        exact a2
      · cases e0
        have hpt:AV.pureL (ob.cells.take (len * ob.esz))=true:=by
          rw [AV.pureL_all] at z3 ⊢
          exact fun x hx => z3 x (List.mem_of_mem_take hx)
        have es:sealA 2 c'.h (.ref k 0 len none)=some (.sl false (chunk ob.eagg ob.esz len (ob.cells.take (len * ob.esz))) none,setK h' k { ob with mt:=false }):=by
          rw [a1]
          unfold sealA
          simp only [AV.pure,Bool.false_eq_true,if_false,z1,Nat.zero_add,List.drop_zero]
          rw [if_pos ⟨z2,z4,z5⟩,sealL_of_pure 0 _ _ hpt]
        obtain ⟨c2,b1,b2,b3,b4,b5,b6⟩:=sealA_sound base 2 c' _ _ _ val es a4 a3
        refine ⟨val,c2,b1,?_,b6,b4,a5.trans b5 H⟩
        rw [b2]
        simp only [resolve,hcal,Sem.run_bind,Sem.run_pure,Result.andThen_ok,invoke]
        exact a2
    · cases h
  · rename_i x _ u e; simp only [e]
    split at h
    · cases h
    · rename_i τ ty v hni hτ hx
      split at h
      case isFalse => cases h
      rename_i htu
      cases h
      subst htu
      obtain ⟨d,hd1,hd2⟩:=under_of O hτ
      have hv:=opd_sound G F hx
      generalize a.eval x=q at hv
      cases hv with
      | iface _ _ w hw =>
      refine Comp.op ⟨.tuple ⟨[w,.bool true]⟩,?_,.tup _ _ (.cons _ _ _ _ hw (.cons _ _ _ _ (.bool _) .nil))⟩ H
      have:∀ ms,d ≠ .interface ms:=by
        rintro ms rfl
        cases hτd:τ.d <;> simp [dOK,hτd] at hd2
        cases τ
        simp only at hτd
        subst hτd
        exact hni _ _ _ _ _ rfl
      cases d <;> simp [Instr.typeAssert,run_underlying hd1] at this ⊢
    · cases h
  · rename_i x e; simp only [e]
    split at h
    case h_2 => cases h
    rename_i ty v hx
    cases h
    have hv:=opd_sound G F hx
    generalize a.eval x=u at hv
    cases hv with
    | iface _ _ w hw => exact ⟨.iface ty w,by simp [Instr.panic],.iface _ _ _ hw⟩
  · cases h
end Ab
/- Code and calls of the evaluator are the model's. Own work, no conditions. -/
set_option linter.unusedVariables false
set_option linter.unusedSimpArgs false
namespace Ab
open Go
structure ExtL (L base:Nat) (c c':Cx):Prop where
  os:c'.w.os=c.w.os
  tape:c'.w.tape=c.w.tape
  output:c'.w.output=c.w.output
  size:c.w.heap.size ≤ c'.w.heap.size
  frame:∀ b,b < c.w.heap.size → ¬ c.Mut b → c'.w.heap[b]? = c.w.heap[b]?
  rd:∀ b,c.Rd b → c'.Rd b
  vk:∀ k,k.1 < L → c.Vk k → c'.Vk k ∧ c'.m k=c.m k
  newrd:∀ b,c'.Rd b → c.Rd b ∨ c.w.heap.size ≤ b ∨ c.Mut b
  newmut:∀ b,c'.Mut b → c.Mut b ∨ c.w.heap.size ≤ b
theorem Ext.toL {base c c'} (L:Nat) (h:Ext base c c'):ExtL L base c c':=⟨h.os,h.tape,h.output,h.size,h.frame,h.rd,fun k _ => h.vk k,h.newrd,h.newmut⟩
theorem ExtL.refl (L base c):ExtL L base c c:=(Ext.refl base c).toL L
theorem ExtL.trans {L base a b c} (h:ExtL L base a b) (k:ExtL L base b c):ExtL L base a c where
  os:=k.os.trans h.os
  tape:=k.tape.trans h.tape
  output:=k.output.trans h.output
  size:=Nat.le_trans h.size k.size
  frame:=fun x hx hm => (k.frame x (Nat.lt_of_lt_of_le hx h.size) fun hb => (h.newmut x hb).elim hm fun hl => by omega).trans (h.frame x hx hm)
  rd:=fun x hx => k.rd x (h.rd x hx)
  vk:=fun q hl hq => ⟨(k.vk q hl (h.vk q hl hq).1).1,(k.vk q hl (h.vk q hl hq).1).2.trans (h.vk q hl hq).2⟩
  newrd:=fun x hx => by
    rcases k.newrd x hx with h1 | h1 | h1
    · exact h.newrd x h1
    · exact .inr (.inl (Nat.le_trans h.size h1))
    · rcases h.newmut x h1 with h2 | h2
      · exact .inr (.inr h2)
      · exact .inr (.inl h2)
  newmut:=fun x hx => by
    rcases k.newmut x hx with h1 | h1
    · exact h.newmut x h1
    · exact .inr (Nat.le_trans h.size h1)
theorem ExtL.same {L base c c'} (e:ExtL L base c c') (h:HR base c) {b:Nat} (hb:c.Rd b):c'.Rd b ∧ c'.w.heap[b]? = c.w.heap[b]? :=
  ⟨e.rd b hb,e.frame b (h.rd b hb) (h.not_mut hb)⟩
theorem ExtL.rv_pure {L base c c'} (e:ExtL L base c c') (h:HR base c) {x v} (hx:RV c x v) (hp:x.pure=true):RV c' x v :=
  hx.mono (fun b hb => e.same h hb) fun k hk => by rw [AV.keys_pure x hp] at hk; cases hk
theorem GOK.ext {E base c c'} (g:GOK E c) (e:Ext base c c') (h:HR base c):GOK E c':=fun i cs hi => e.rv h (g i cs hi)
theorem GOK.extL {E L base c c'} (g:GOK E c) (e:ExtL L base c c') (h:HR base c):GOK E c':=fun i cs hi => e.rv_pure h (g i cs hi) rfl
theorem FR.ext {base c c' n t tmps} (F:FR c n t tmps) (e:Ext base c c') (h:HR base c):FR c' n t tmps:=⟨F.1,fun i v hi => e.rv h (F.2 i v hi)⟩
theorem lookT_cons (i:Nat) (v:AV) (t:Fr) (q:Nat):lookT ((i,v) :: t) q=if i=q then some v else lookT t q:=rfl
theorem FR.put {c n t} {a:Act} (F:FR c n t a.tmps) {d:Option Nat} {v val t'} (h:putT n t d v=some t') (hv:RV c v val):FR c n t' (a.put d val).tmps:=by
  unfold putT at h
  cases d with
  | none => cases h; exact F
  | some d =>
    simp only at h
    split at h
    case isFalse => cases h
    rename_i hd
    cases h
    refine ⟨by simpa [Act.put] using F.1,fun i x hi => ?_⟩
    rw [lookT_cons] at hi
    simp only [Act.put]
    split at hi
    · rename_i e; subst e; cases hi
      have:d < a.tmps.size:=by rw [F.1]; exact hd
      simp [Array.getD,this]; exact hv
    · rename_i e
      have:=F.2 i x hi
      rw [Array.getD_eq_getD_getElem?] at this ⊢
      rwa [Array.getElem?_setIfInBounds_ne (fun q => e q)]
theorem put_defers (a:Act) (d v):(a.put d v).defers=a.defers:=by unfold Act.put; split <;> rfl
def frzU (d:Nat) (x:Oper):Bool :=
  match x.op with
  | .call { callee:=.value _,args:=as,.. } => as.toList.any fun a => match a with | .tmp i => i == d | _ => false
  | _ => false
def frzW (as:List Operand) (x:Oper):Bool :=
  match x.op,x.dst,as with
  | .slice ..,some d,[_,.tmp i] => i == d
  | _,_,_ => false
def frzT (d:Nat) (x:Oper):Bool :=
  match x.op with
  | .store _ _ (.tmp i) => i == d
  | _ => false
def frzR (zs:List Nat) (ops:Array Oper) (o:Oper):Array Edge :=
  match o.op,o.dst with
  | .buildSlice ..,some d => if ops.toList.any (frzU d) || zs.contains d then fz else #[]
  | .call { callee:=.builtin .append,args:=as,.. },some d => if ops.toList.any (frzW as.toList) && ops.toList.any (frzT d) || zs.contains d then fz else #[]
  | .makeSlice ..,some d => if zs.contains d then fz else #[]
  | _,_ => #[]
def eraseOp (zs:List Nat) (ops:Array Oper) (o:Oper):Option Oper :=
  match o.guard with
  | none => some { o with pos:="",after:=frzR zs ops o,guard:=none }
  | some (j,b) => match (ops[j]?).bind (·.dst) with
    | some d => some { o with pos:="",after:=frzR zs ops o,guard:=some (d,b) }
    | none => none
def eraseL (zs:List Nat) (ops:Array Oper):List Oper → Option (List Oper)
  | [] => some []
  | o :: r => match eraseOp zs ops o,eraseL zs ops r with
    | some x,some l => some (x :: l)
    | _,_ => none
section
variable {zs:List Nat}
theorem eraseOp_eq {ops:Array Oper} {o o':Oper} (h:eraseOp zs ops o=some o'):o'.op=o.op ∧ o'.dst=o.dst ∧ o'.type=o.type ∧ (match o.guard with | none => o'.guard=none | some (j,b) => ∃ d,(ops[j]?).bind (·.dst)=some d ∧ o'.guard=some (d,b)):=by
  unfold eraseOp at h
  split at h
  · rename_i e; cases h; simp [e]
  · rename_i j b e
    split at h
    · rename_i d hd; cases h; simp [e,hd]
    · cases h
theorem execOp_erase {ops:Array Oper} {o o':Oper} (h:eraseOp zs ops o=some o') (ρ:Operand → Value):execOp ρ o'=execOp ρ o:=by
  obtain ⟨h1,h2,h3,_⟩:=eraseOp_eq h
  unfold execOp
  rw [h1,h3]
theorem wanted_sound {c n t} {a:Act} (F:FR c n t a.tmps) {ops:Array Oper} {o o':Oper} (h:eraseOp zs ops o=some o') {b} (hw:wantedA t o'=some b):Region.wanted o (yielded ops a.tmps)=b:=by
  obtain ⟨_,_,_,hg⟩:=eraseOp_eq h
  unfold wantedA at hw
  unfold Region.wanted
  cases e:o.guard with
  | none => rw [e] at hg; simp only at hg; rw [hg] at hw; simpa using hw
  | some p =>
    obtain ⟨j,want⟩:=p
    rw [e] at hg
    obtain ⟨d,hd,hg⟩:=hg
    rw [hg] at hw
    simp only at hw ⊢
    simp only [yielded,hd,Option.bind_some]
    cases hl:lookT t d with
    | none => rw [hl] at hw; cases hw
    | some x =>
      rw [hl] at hw
      have hx:=F.2 d x hl
      rw [Array.getD_eq_getD_getElem?] at hx
      cases hc:a.tmps[d]? with
      | none =>
        rw [hc] at hx
        cases hx
        simpa using hw
      | some v =>
        rw [hc] at hx
        simp only [Option.getD_some] at hx
        cases hx <;> simp at hw ⊢ <;> exact hw
def ResR (c:Cx):ARes → Ending → Prop
  | .ret v,e => ∃ val,e=.returned val ∧ RV c v val
  | .panic ch,e => ∃ chain,e=.panicked chain ∧ RVs c ch (chain.map (·.v)) ∧ ∀ p ∈ chain,p.recovered=false ∧ p.goexit=false
def CallS (P:Program) (E:Env) (base:Nat) (c:Cx) (f:FuncId) (vals:List Value) (r:ARes) (h':Heap):Prop :=
  ∃ g vals',(callFunc f ⟨vals⟩).run P c.w=.ok (.enter g vals') c.w ∧
    Calls P g vals' c.w fun e w' => ∃ c',c'.w=w' ∧ c'.h=h' ∧ HR base c' ∧ Ext base c c' ∧ ResR c' r e
def CallOK (P:Program) (E:Env) (call:CallF):Prop :=
  ∀ base c lvl f args vals r h',call lvl f args c.h=some (r,h') → HR base c → base ≤ c.w.heap.size → GOK E c → RVs c args vals → CallS P E base c f vals r h'
def ExR (c:Cx):AExit → Exit → Prop
  | .normal,e => e=.normal
  | .exit i,e => e=.exit i
  | .ret,e => e=.ret
  | .panic ch,e => ∃ chain,e=.panic chain ∧ RVs c ch (chain.map (·.v)) ∧ ∀ p ∈ chain,p.recovered=false ∧ p.goexit=false
def Post (Ds:List Deferred) (L base n:Nat) (c:Cx) (ex:AExit) (s':St) (e:Exit) (a':Act) (w':World):Prop :=
  ∃ c',c'.w=w' ∧ c'.h=s'.h ∧ HR base c' ∧ ExtL L base c c' ∧ FR c' n s'.t a'.tmps ∧ a'.defers=Ds ∧ ExR c' ex e
theorem wpOps_cons' {P:Program} {ops:Array Oper} {Q:Exit → Act → World → Prop} {i:Nat} {rest:List Nat} {o:Oper} {a:Act} {w:World} (ho:ops[i]? = some o) :
    wpOps P ops Q (i :: rest) a w=if Region.wanted o (yielded ops a.tmps) then o.wp P a w (wpOps P ops Q rest) Q ∨ (o.asks P a w ∧ LetsOut Q) else wpOps P ops Q rest (a.put o.dst undef) w:=by
  simp only [wpOps,ho]
theorem aOps_sound {P E} (O:EnvOK P E) {call:CallF} (C:CallOK P E call) {Ds:List Deferred} {base L lvl n:Nat} {ops:Array Oper} :
    ∀ (is:List Nat) (l l':List Oper) (s:St) ex s' (c0 c:Cx) (a:Act),is.map (ops[·]?)=l.map some → (∀ i,i < l.length → ∃ o o',l[i]? = some o ∧ l'[i]? = some o' ∧ eraseOp zs ops o=some o') → l'.length=l.length →
      aOps E call lvl n l' s=some (ex,s') → HR base c → base ≤ c.w.heap.size → GOK E c → c.h=s.h → FR c n s.t a.tmps → a.defers=Ds → ExtL L base c0 c → wpOps P ops (Post Ds L base n c0 ex s') is a c.w
  | [],l,l',s,ex,s',c0,c,a,hi,hl,hlen,h,H,hb,G,hh,F,hd,X0 => by
    have:l=[]:=by simpa using hi
    subst this
    have:l'=[]:=List.eq_nil_of_length_eq_zero hlen
    subst this
    simp only [aOps,Option.some.injEq,Prod.mk.injEq] at h
    obtain ⟨rfl,rfl⟩:=h
    exact ⟨c,rfl,hh,H,X0,F,hd,rfl⟩
  | i :: is,l,l',s,ex,s',c0,c,a,hi,hl,hlen,h,H,hb,G,hh,F,hd,X0 => by
    cases l with
    | nil => simp at hi
    | cons o l =>
    cases l' with
    | nil => simp at hlen
    | cons o' l' =>
    simp only [List.map_cons,List.cons.injEq] at hi
    obtain ⟨ho,hi⟩:=hi
    obtain ⟨o1,o2,e1,e2,he⟩:=hl 0 (by simp)
    simp at e1 e2
    subst e1 e2
    have hl':∀ i,i < l.length → ∃ o o',l[i]? = some o ∧ l'[i]? = some o' ∧ eraseOp zs ops o=some o':=fun i hi => by
      obtain ⟨x,y,g1,g2,g3⟩:=hl (i + 1) (by simpa using hi)
      exact ⟨x,y,by simpa using g1,by simpa using g2,g3⟩
    have hlen':l'.length=l.length:=by simpa using hlen
    rw [wpOps_cons' ho]
    simp only [aOps] at h
    obtain ⟨_,hdst,_,_⟩:=eraseOp_eq he
    have next:∀ (c1:Cx) (t1:Fr) (h1:Heap) (v:AV) (val:Value),c1.h=h1 → HR base c1 → Ext base c c1 → RV c1 v val → putT n s.t o'.dst v=some t1 → aOps E call lvl n l' ⟨t1,h1⟩=some (ex,s') →
        wpOps P ops (Post Ds L base n c0 ex s') is (a.put o.dst val) c1.w:=by
      intro c1 t1 h1 v val hh1 H1 X1 hv hp hr
      exact aOps_sound O C (L:=L) is l l' ⟨t1,h1⟩ ex s' c0 c1 (a.put o.dst val) hi hl' hlen' hr H1 (Nat.le_trans hb X1.size) (G.ext X1 H) hh1 ((F.ext X1 H).put (by rwa [hdst] at hp) hv) (by rw [put_defers]; exact hd) (X0.trans (X1.toL L))
    cases hw:wantedA s.t o' with
    | none => rw [hw] at h; cases h
    | some b =>
      rw [hw] at h
      have hwt:=wanted_sound F he hw
      rw [hwt]
      cases b with
      | false =>
        simp only at h
        cases hp:putT n s.t o'.dst (.tup []) with
        | none => rw [hp] at h; cases h
        | some t1 =>
          rw [hp] at h
          simp only [Bool.false_eq_true,if_false]
          exact next c t1 s.h _ undef hh H (.refl _ _) (.tup [] [] .nil) hp h
      | true =>
        simp only at h
        simp only [if_true]
        left
        unfold Oper.wp
        rw [← execOp_erase he]
        cases hop:aOp E lvl s.t s.h o' with
        | none => rw [hop] at h; cases h
        | some r =>
          rw [hop] at h
          rw [← hh] at hop
          have hs:=aOp_sound O (base:=base) hop H hb G F
          cases r with
          | val v h1 =>
            simp only at h
            obtain ⟨val,c1,a1,a2,a3,a4,a5⟩:=hs
            cases hp:putT n s.t o'.dst v with
            | none => rw [hp] at h; cases h
            | some t1 =>
              rw [hp] at h
              rw [a2]
              exact next c1 t1 h1 v val a1 a4 a5 a3 hp h
          | skip h1 =>
            simp only at h
            obtain ⟨c1,a1,a2,a4,a5⟩:=hs
            cases hp:putT n s.t o'.dst (.tup []) with
            | none => rw [hp] at h; cases h
            | some t1 =>
              rw [hp] at h
              rw [a2]
              exact next c1 t1 h1 _ undef a1 a4 a5 (.tup [] [] .nil) hp h
          | panic v =>
            simp only [Option.some.injEq,Prod.mk.injEq] at h
            obtain ⟨rfl,rfl⟩:=h
            obtain ⟨val,a1,a2⟩:=hs
            rw [a1]
            exact ⟨c,rfl,hh,H,X0,F,hd,[{ v:=val,recovered:=false }],rfl,.cons _ _ _ _ a2 .nil,by intro p hp; simp at hp; subst hp; exact ⟨rfl,rfl⟩⟩
          | call f args =>
            simp only at h
            obtain ⟨vals,a1,a2⟩:=hs
            rw [a1]
            cases hc:call (o'.dst.getD 0) f args s.h with
            | none => rw [hc] at h; cases h
            | some p =>
              obtain ⟨r,h1⟩:=p
              rw [hc] at h
              rw [← hh] at hc
              obtain ⟨g,vals',b1,b2⟩:=C base c _ f args vals r h1 hc H hb G a2
              rw [b1]
              refine b2.mono ?_
              rintro e w' ⟨c1,q1,q2,q3,q4,q5⟩
              subst q1
              cases r with
              | ret v =>
                obtain ⟨val,rfl,hv⟩:=q5
                simp only at h
                cases hp:putT n s.t o'.dst v with
                | none => rw [hp] at h; cases h
                | some t1 =>
                  rw [hp] at h
                  exact next c1 t1 h1 v val q2 q3 q4 hv hp h
              | panic ch =>
                obtain ⟨chain,rfl,hch⟩:=q5
                simp only [Option.some.injEq,Prod.mk.injEq] at h
                obtain ⟨rfl,rfl⟩:=h
                exact ⟨c1,rfl,q2,q3,X0.trans (q4.toL L),F.ext q4 H,hd,chain,rfl,hch⟩
end
end Ab
/- Code of the evaluator is the model's. Own work, no conditions. -/
set_option linter.unusedVariables false
set_option linter.unusedSimpArgs false
namespace Ab
open Go
/-! ### What a frame no longer needs is forgotten -/
theorem keepT_get {t:Fr}:∀ {ks:List Nat} {i v},lookT (keepT t ks) i=some v → lookT t i=some v
  | [],i,v,h => by simp [keepT,lookT] at h
  | k :: r,i,v,h => by
    unfold keepT at h
    split at h
    · rename_i u e
      rw [lookT_cons] at h
      split at h
      · rename_i e2; subst e2; cases h; exact e
      · exact keepT_get h
    · exact keepT_get h
theorem keysT_look:∀ {t:Fr} {i v},lookT t i=some v → ∀ k ∈ v.keys,k ∈ keysT t
  | [],i,v,h => by simp [lookT] at h
  | (j,u) :: r,i,v,h => by
    intro k hk
    rw [lookT_cons] at h
    simp only [keysT,List.mem_append]
    split at h
    · cases h; exact .inl hk
    · exact .inr (keysT_look h k hk)
theorem reach_sub (h:Heap):∀ n ks k,k ∈ ks → k ∈ reach h n ks
  | 0,ks,k,hk => hk
  | n + 1,ks,k,hk => reach_sub h n _ k (by simp [hk])
theorem inKs_of {ks:List Key} {k:Key} (h:k ∈ ks):inKs ks k=true:=by
  unfold inKs; rw [List.any_eq_true]; exact ⟨k,h,by simp⟩
theorem lookK_filter (p:Key → Bool):∀ (h:Heap) (k:Key),p k=true → lookK (h.filter fun q => p q.1) k=lookK h k
  | [],k,_ => rfl
  | (q,o) :: r,k,hk => by
    simp only [List.filter_cons]
    by_cases e:q=k
    · subst e; simp [hk,lookK]
    · split
      · simp only [lookK,e,if_false]; exact lookK_filter p r k hk
      · simp only [lookK,e,if_false]; exact lookK_filter p r k hk
theorem lookK_filter_some (p:Key → Bool):∀ (h:Heap) (k:Key) o,lookK (h.filter fun q => p q.1) k=some o → p k=true
  | [],k,o,h => by simp [lookK] at h
  | (q,o') :: r,k,o,h => by
    simp only [List.filter_cons] at h
    split at h
    · rename_i hq
      simp only [lookK] at h
      split at h
      · rename_i e; subst e; exact hq
      · exact lookK_filter_some p r k o h
    · exact lookK_filter_some p r k o h
theorem lookK_mem:∀ {h:Heap} {k o},lookK h k=some o → (k,o) ∈ h
  | (q,o') :: r,k,o,h => by
    simp only [lookK] at h
    split at h
    · rename_i e; subst e; cases h; simp
    · simp [lookK_mem h]
theorem gc_sound {base c} (H:HR base c) {L:Nat} (p:Key → Bool) (hp:∀ k,k.1 < L → p k=true) (hcl:∀ k o,lookK c.h k=some o → p k=true → ∀ q ∈ AV.keysL o.cells,p q=true) :
    ∃ c',c'.w=c.w ∧ c'.h=c.h.filter (fun q => p q.1) ∧ HR base c' ∧ ExtL L base c c' ∧ ∀ x v,RV c x v → (∀ k ∈ x.keys,p k=true) → RV c' x v:=by
  let c':Cx:={ c with h:=c.h.filter fun q => p q.1 }
  have look:∀ k,p k=true → lookK c'.h k=lookK c.h k:=fun k hk => lookK_filter p c.h k hk
  have back:∀ k o,lookK c'.h k=some o → lookK c.h k=some o ∧ p k=true:=fun k o h => by
    have hk:=lookK_filter_some p c.h k o h
    exact ⟨by rw [← look k hk]; exact h,hk⟩
  have rv:∀ x v,RV c x v → (∀ k ∈ x.keys,p k=true) → RV c' x v:=fun x v hx hk =>
    hx.mono (c:=c) (c':=c') (fun b hb => ⟨hb,rfl⟩) fun k hkx ⟨o,ho⟩ => ⟨⟨o,by rw [look k (hk k hkx)]; exact ho⟩,rfl⟩
  refine ⟨c',rfl,rfl,⟨?_,?_,?_,?_,H.rd⟩,?_,rv⟩
  · intro k o hk hl
    obtain ⟨hk',hpk⟩:=back k o hk
    obtain ⟨arr,e,fr,h1,h2,h3,h4,h4b,h5⟩:=H.obj k o hk' hl
    refine ⟨arr,e,fr,h1,h2,h3,h4,h4b,fun i x hx => ?_⟩
    obtain ⟨v,q1,q2,q3⟩:=h5 i x hx
    refine ⟨v,q1,rv x v q2 fun q hq => hcl k o hk' hpk q ?_,q3⟩
    have:∀ (l:List AV) (i:Nat),l[i]? = some x → ∀ q ∈ x.keys,q ∈ AV.keysL l:=by
      intro l
      induction l with
      | nil => intro i h; simp at h
      | cons y l ih =>
        intro i h q hq
        simp only [AV.keysL,List.mem_append]
        cases i with
        | zero => simp at h; subst h; exact .inl hq
        | succ i => exact .inr (ih i (by simpa using h) q hq)
    exact this _ i hx q hq
  · exact fun k o hk => H.mt k o (back k o hk).1
  · exact fun k o hk => H.sld k o (back k o hk).1
  · exact fun k o k' o' hk hk' => H.inj k o k' o' (back k o hk).1 (back k' o' hk').1
  · refine ⟨rfl,rfl,rfl,Nat.le_refl _,fun _ _ _ => rfl,fun _ h => h,fun k hk ⟨o,ho⟩ => ⟨⟨o,by rw [look k (hp k hk)]; exact ho⟩,rfl⟩,fun b h => .inl h,?_⟩
    rintro b ⟨k,o,hk,hl,hm,rfl⟩
    exact .inl ⟨k,o,(back k o hk).1,hl,hm,rfl⟩
theorem clean_sound {E base c n L} {s:St} {a:Act} (H:HR base c) (G:GOK E c) (hh:c.h=s.h) (F:FR c n s.t a.tmps) (ks:Option (List Nat)) :
    ∃ c',c'.w=c.w ∧ c'.h=(cleanS L ks s).h ∧ HR base c' ∧ GOK E c' ∧ ExtL L base c c' ∧ FR c' n (cleanS L ks s).t a.tmps:=by
  unfold cleanS
  cases ks with
  | none => exact ⟨c,rfl,hh,H,G,.refl _ _ _,F⟩
  | some ks =>
    simp only
    have F0:FR c n (keepT s.t ks) a.tmps:=⟨F.1,fun i v hi => F.2 i v (keepT_get hi)⟩
    have same:∀ h':Heap,c.h=h' → ∃ c',c'.w=c.w ∧ c'.h=h' ∧ HR base c' ∧ GOK E c' ∧ ExtL L base c c' ∧ FR c' n (keepT s.t ks) a.tmps:=fun h' e => ⟨c,rfl,e,H,G,.refl _ _ _,F0⟩
    rw [← hh]
    unfold gcH
    split
    · rename_i e; exact same _ e
    · rename_i q r e
      simp only
      split
      · rename_i hall
        rw [← e] at hall ⊢
        obtain ⟨c',h1,h2,h3,h4,h5⟩:=gc_sound H (L:=L) (keepK L (reach c.h 2 (keysT (keepT s.t ks)))) (fun k hk => by simp [keepK,hk]) (fun k o hk hp q hq => by
          have:=List.all_eq_true.1 hall (k,o) (by rw [List.mem_filter]; exact ⟨lookK_mem hk,hp⟩)
          exact List.all_eq_true.1 this q hq)
        refine ⟨c',h1,h2,h3,G.extL h4 H,h4,F0.1,fun i v hi => h5 v _ (F0.2 i v hi) fun k hk => ?_⟩
        have:=inKs_of (reach_sub c.h 2 _ k (keysT_look hi k hk))
        simp [keepK,this]
      · exact same _ e
end Ab
