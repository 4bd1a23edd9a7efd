/- The evaluator: own work, no conditions. -/
import Derived.Test.YtbiildmljbcmeaaDoorB40e
import Derived.ChangeArms
import Derived.Test.YtbiildmljbcmeaaDoorB18
import Derived.ChangeKeysEq
import Derived.Laws.StructEq
/- What a laid argument is, for the evaluator: numbers, bools, strings, slices, structs and arrays of them. Own work, no conditions. -/
set_option linter.unusedVariables false
set_option linter.unusedSimpArgs false
namespace Ab
open Go
def aggTy (P:Program) (e:TypeId):Bool:=match P.underlying e with
  | some (.struct _) | some (.array _ _) => true
  | _ => false
def Shp (P:Program):Nat → TypeId → List AV → Prop
  | 0,_,_ => False
  | n + 1,t,cs =>
    match P.underlying t with
    | some .bool => ∃ b,cs=[.bool b]
    | some (.int k) => ∃ x,cs=[.int k x] ∧ (Lit.int k x).wf=true
    | some .string => ∃ l,cs=[.str l]
    | some (.slice e) => ∃ f xs,cs=[.sl f xs none] ∧ (f=true → xs=[]) ∧ xs.length ≤ maxLen ∧ ∀ x ∈ xs,Shp P n e x.cells ∧ x.scal = !aggTy P e
    | some (.struct fs) => cs.length=P.cellsOf t ∧ ∀ f ∈ fs.toList,Shp P n f.type ((cs.drop f.offset).take (P.cellsOf f.type))
    | some (.array m e) => cs.length=P.cellsOf t ∧ ∀ i,i < m → Shp P n e ((cs.drop (i * P.cellsOf e)).take (P.cellsOf e))
    | _ => False
def layF (P:Program) (S:TypeId → Bool):List Field → Nat → Option Nat
  | [],k => some k
  | f :: r,k => if f.offset=k ∧ S f.type=true then layF P S r (k + P.cellsOf f.type) else none
def okTy (P:Program) (S:TypeId → Bool) (t:TypeId):Bool:=match P.underlying t with
  | some .bool | some (.int _) | some .string => P.cellsOf t == 1
  | some (.slice e) => P.cellsOf t == 1 && S e && decide (0 < P.cellsOf e)
  | some (.struct fs) => layF P S fs.toList 0 == some (P.cellsOf t)
  | some (.array m e) => S e && P.cellsOf t == m * P.cellsOf e
  | _ => false
structure Std (c:Cx) (cs:List Value) (avs:List AV):Prop where
  rv:RVs c avs cs
  sc:∀ x ∈ avs,x.scal=true
  pu:∀ x ∈ avs,x.pure=true
theorem rvs_app {c:Cx}:∀ {a b:List AV} {x y:List Value},RVs c a x → RVs c b y → RVs c (a ++ b) (x ++ y)
  | _,_,_,_,.nil,h => h
  | _,_,_,_,.cons _ _ _ _ h1 h2,h => .cons _ _ _ _ h1 (rvs_app h2 h)
theorem Std.append {c:Cx} {a b x y} (h:Std c x a) (k:Std c y b):Std c (x ++ y) (a ++ b) :=
  ⟨rvs_app h.rv k.rv,fun z hz => (List.mem_append.1 hz).elim (h.sc z) (k.sc z),fun z hz => (List.mem_append.1 hz).elim (h.pu z) (k.pu z)⟩
theorem Std.length {c:Cx} {a x} (h:Std c x a):a.length=x.length:=h.rv.length
theorem Std.nil {c:Cx}:Std c [] []:=⟨.nil,fun _ h => (by cases h),fun _ h => (by cases h)⟩
theorem mk_list {α β:Type} {Q:Nat → α → β → Prop}:∀ (len:Nat),(∀ i,i < len → ∃ x v,Q i x v) → ∃ (xs:List α) (vs:List β),xs.length=len ∧ vs.length=len ∧ ∀ i x v,xs[i]? = some x → vs[i]? = some v → Q i x v
  | 0,_ => ⟨[],[],rfl,rfl,fun i x v h => by simp at h⟩
  | len + 1,h => by
    obtain ⟨xs,vs,h1,h2,h3⟩:=mk_list len fun i hi => h i (by omega)
    obtain ⟨x,v,q⟩:=h len (by omega)
    refine ⟨xs ++ [x],vs ++ [v],by simp [h1],by simp [h2],fun i y z hy hz => ?_⟩
    by_cases hi:i < len
    · rw [List.getElem?_append_left (by omega)] at hy hz
      exact h3 i y z hy hz
    · have e:i=len:=by
        have:=(List.getElem?_eq_some_iff.1 hy).1
        simp [h1] at this; omega
      subst e
      rw [List.getElem?_append_right (by omega),h1] at hy
      rw [List.getElem?_append_right (by omega),h2] at hz
      simp at hy hz
      subst hy hz
      exact q
theorem rvs_of_get {c:Cx}:∀ {xs:List AV} {vs:List Value},xs.length=vs.length → (∀ (i:Nat) x v,xs[i]? = some x → vs[i]? = some v → RV c x v) → RVs c xs vs
  | [],[],_,_ => .nil
  | [],_ :: _,h,_ => by simp at h
  | _ :: _,[],h,_ => by simp at h
  | x :: xs,v :: vs,h,k => .cons _ _ _ _ (k 0 x v rfl rfl) (rvs_of_get (by simpa using h) fun i y z hy hz => k (i + 1) y z (by simpa using hy) (by simpa using hz))
theorem flat_get {m:Nat} (hm:0 < m):∀ {vs:List Value},(∀ v ∈ vs,v.cells.size=m) → ∀ i cell,(vs.flatMap (·.cells.toList))[i]? = some cell → ∃ v,vs[i / m]? = some v ∧ v.cells.toList[i % m]? = some cell
  | [],_,i,cell,h => by simp at h
  | v :: vs,hs,i,cell,h => by
    have hv:=hs v (by simp)
    have hl:v.cells.toList.length=m:=by simpa using hv
    rw [List.flatMap_cons] at h
    by_cases hi:i < m
    · rw [List.getElem?_append_left (by omega)] at h
      exact ⟨v,by rw [Nat.div_eq_of_lt hi]; rfl,by rw [Nat.mod_eq_of_lt hi]; exact h⟩
    · rw [List.getElem?_append_right (by omega),hl] at h
      obtain ⟨w,h1,h2⟩:=flat_get hm (fun v hv => hs v (by simp [hv])) _ _ h
      have e1:i / m=(i - m) / m + 1:=by
        have:i=(i - m) + m:=by omega
        rw [this,Nat.add_div_right _ hm]; simp
      have e2:i % m=(i - m) % m:=by
        have:i=(i - m) + m:=by omega
        rw [this,Nat.add_mod_right]; simp
      exact ⟨w,by rw [e1]; simpa using h1,by rw [e2]; exact h2⟩
theorem mapM_get {α β:Type} {f:α → Option β}:∀ {l:List α} {r:List β},l.mapM f=some r → ∀ (i:Nat) x,l[i]? = some x → ∃ y,r[i]? = some y ∧ f x=some y
  | [],r,h,i,x,hx => by simp at hx
  | a :: l,r,h,i,x,hx => by
    simp only [List.mapM_cons,Option.bind_eq_bind,Option.bind_eq_some_iff,Option.pure_def,Option.some.injEq] at h
    obtain ⟨y,h1,ys,h2,rfl⟩:=h
    cases i with
    | zero => simp at hx; subst hx; exact ⟨y,rfl,h1⟩
    | succ i => exact mapM_get h2 i x (by simpa using hx)
theorem add_cell {a:Addr} {w:World} {n:Nat} {v:Value} (hs:a.spot=none) (h:w.cell? (a.add n)=some v):w.cell? ⟨a.block,a.off + n,none⟩=some v:=by
  obtain ⟨b,o,s⟩:=a
  subst hs
  unfold Addr.add at h
  split at h
  · rename_i e; subst e; simpa using h
  · exact h
theorem add_add (a:Addr) (p q:Nat):(a.add p).add q=a.add (p + q):=by
  unfold Addr.add
  by_cases hp:p=0
  · subst hp; simp
  · by_cases hq:q=0
    · subst hq; simp [hp]
    · simp [hp,hq,Nat.add_assoc]
section
variable {H:Type} {enc:TypeId × Value → H} {P:Program} {W:World}
abbrev td (enc:TypeId × Value → H) (P:Program) (W:World):=DataW.trod enc P W 0 (fun _ => true) true
theorem trod_shp {S:TypeId → Bool} (hS:∀ t,S t=true → okTy P S t=true):∀ fuel t cs d,S t=true → td enc P W fuel t cs=some d → ∃ avs,Std (cx0 W) cs avs ∧ Shp P fuel t avs ∧ cs.length=P.cellsOf t
  | 0,t,cs,d,_,h => by simp [td,DataW.trod] at h
  | fuel + 1,t,cs,d,ht,h => by
    have ok:=hS t ht
    unfold okTy at ok
    split at ok
    · rename_i hu
      simp only [beq_iff_eq] at ok
      unfold td DataW.trod at h
      rw [hu] at h
      obtain ⟨b,rfl⟩:∃ b,cs=[.bool b]:=by split at h <;> simp_all
      refine ⟨[.bool b],⟨.cons _ _ _ _ (.bool b) .nil,by simp [AV.scal],by simp [AV.pure]⟩,by unfold Shp; rw [hu]; exact ⟨b,rfl⟩,by rw [ok]; rfl⟩
    · rename_i k hu
      simp only [beq_iff_eq] at ok
      unfold td DataW.trod at h
      rw [hu] at h
      obtain ⟨n,rfl,hw⟩:∃ n,cs=[.int k n] ∧ (Lit.int k n).wf=true:=by
        split at h <;> simp_all
      refine ⟨[.int k n],⟨.cons _ _ _ _ (.int k n) .nil,by simp [AV.scal],by simp [AV.pure]⟩,by unfold Shp; rw [hu]; exact ⟨n,rfl,hw⟩,by rw [ok]; rfl⟩
    · rename_i hu
      simp only [beq_iff_eq] at ok
      unfold td DataW.trod at h
      rw [hu] at h
      obtain ⟨s,rfl⟩:∃ s,cs=[.string s]:=by split at h <;> simp_all
      refine ⟨[.str _],⟨.cons _ _ _ _ (.str _ s rfl) .nil,by simp [AV.scal],by simp [AV.pure]⟩,by unfold Shp; rw [hu]; exact ⟨_,rfl⟩,by rw [ok]; rfl⟩
    · rename_i e hu
      simp only [Bool.and_eq_true,beq_iff_eq,decide_eq_true_eq] at ok
      obtain ⟨⟨h1,he⟩,hm⟩:=ok
      rcases DataW.trod_slice hu h with ⟨rfl,_⟩ | ⟨a,len,cap,elems,rest,n,hn,rfl,_,_,hl,hcm,hel,hget,_,_⟩
      · exact ⟨[.sl true [] none],⟨.cons _ _ _ _ (.slE true none none 0 (by simp) (by simp) (by simp)) .nil,by simp [AV.scal],by simp [AV.pure]⟩,by unfold Shp; rw [hu]; exact ⟨true,[],rfl,fun _ => rfl,by simp,fun x hx => by cases hx⟩,by simp [h1]⟩
      obtain rfl:n=fuel:=by omega
      have each:∀ i,i < len → ∃ (x:AV) (v:Value),(RV (cx0 W) x v ∧ x.pure=true ∧ Shp P n e x.cells ∧ x.scal = !aggTy P e) ∧ v.cells.size=P.cellsOf e ∧ ∀ r,r < P.cellsOf e → W.cell? (a.add (i * P.cellsOf e + r))=v.cells.toList[r]?:=by
        intro i hi
        have g:=hget i hi
        obtain ⟨y,hy⟩:∃ y,elems[i]? = some y:=⟨elems[i]'(by omega),List.getElem?_eq_getElem _⟩
        rw [hy] at g
        obtain ⟨c,hc,hd⟩:=Option.bind_eq_some_iff.1 g
        obtain ⟨avs,st,sh,hlen⟩:=trod_shp hS n e c y he hd
        unfold World.cells? at hc
        rw [if_pos (Nat.zero_le _)] at hc
        have hcell:∀ r,r < P.cellsOf e → W.cell? (a.add (i * P.cellsOf e + r))=c[r]?:=by
          intro r hr
          obtain ⟨y2,q1,q2⟩:=mapM_get hc r r (by simp [hr])
          rw [add_add] at q2
          rw [q1,q2]
        by_cases ha:aggTy P e=true
        · refine ⟨.agg avs,.agg ⟨c⟩,⟨.agg avs c st.rv st.sc,?_,sh,by rw [ha]; rfl⟩,by simpa [Value.cells] using hlen,hcell⟩
          have:∀ l:List AV,(∀ x ∈ l,x.pure=true) → AV.pureL l=true:=by
            intro l
            induction l with
            | nil => intro _; rfl
            | cons x l ih => intro q; simp [AV.pureL,q x (by simp),ih fun z hz => q z (by simp [hz])]
          exact this _ st.pu
        · have one:P.cellsOf e=1 ∧ ∀ z,z.scal=true → AV.cells z=[z]:=by
            refine ⟨?_,fun z hz => by cases z <;> first | rfl | simp [AV.scal] at hz⟩
            have ok2:=hS e he
            unfold okTy at ok2
            unfold aggTy at ha
            split at ok2 <;> simp_all
          have hl1:c.length=1:=by rw [hlen]; exact one.1
          obtain ⟨v,rfl⟩:∃ v,c=[v]:=by
            match c,hl1 with
            | [v],_ => exact ⟨v,rfl⟩
          have hl2:avs.length=1:=by rw [st.length]; rfl
          obtain ⟨x,rfl⟩:∃ x,avs=[x]:=by
            match avs,hl2 with
            | [x],_ => exact ⟨x,rfl⟩
          have rv:RV (cx0 W) x v:=by cases st.rv; assumption
          have sc:=st.sc x (by simp)
          have vc:v.cells = #[v]:=by
            cases rv <;> first | rfl | simp [AV.scal] at sc
          refine ⟨x,v,⟨rv,st.pu x (by simp),by rw [one.2 x sc]; exact sh,by simp [sc,ha]⟩,by rw [vc,one.1]; rfl,?_⟩
          intro r hr
          rw [hcell r hr,vc]
      obtain ⟨xs,vs,hx,hv,hq⟩:=mk_list len each
      refine ⟨[.sl false xs none],⟨.cons _ _ _ _ ?_ .nil,by simp [AV.scal],by simp [AV.pure]⟩,by
        unfold Shp; rw [hu]
        refine ⟨false,xs,rfl,fun q => absurd q (by decide),by rw [hx]; omega,fun x hxm => ?_⟩
        obtain ⟨i,hi,rfl⟩:=List.getElem_of_mem hxm
        have q:=hq i xs[i] (vs[i]'(by omega)) (List.getElem?_eq_getElem _) (List.getElem?_eq_getElem _)
        exact q.1.2.2,by simp [h1]⟩
      by_cases hz:len=0
      · subst hz
        obtain rfl:=List.eq_nil_of_length_eq_zero hx
        exact .slE false (some a) none cap (by simp) (by simp) (by simp)
      have hvs:∀ v ∈ vs,v.cells.size=P.cellsOf e:=fun v hvm => by
        obtain ⟨i,hi,rfl⟩:=List.getElem_of_mem hvm
        exact (hq i (xs[i]'(by omega)) vs[i] (List.getElem?_eq_getElem _) (List.getElem?_eq_getElem _)).2.1
      have c0:∃ v,W.cell? a=some v:=by
        have q:=(hq 0 (xs[0]'(by omega)) (vs[0]'(by omega)) (List.getElem?_eq_getElem _) (List.getElem?_eq_getElem _))
        have q2:=q.2.2 0 hm
        rw [Nat.zero_mul] at q2
        have ea:a.add (0 + 0)=a:=by simp [Addr.add]
        rw [ea] at q2
        have hs:0 < (vs[0]'(by omega)).cells.toList.length:=by rw [Array.length_toList,q.2.1]; exact hm
        exact ⟨_,q2.trans (List.getElem?_eq_getElem hs)⟩
      obtain ⟨b,off,spot⟩:=a
      have hs:spot=none ∧ b < W.heap.size:=by
        obtain ⟨v,hc0⟩:=c0
        unfold World.cell? at hc0
        split at hc0
        · rename_i e1
          split at hc0
          · cases hc0
          · rename_i hsp
            exact ⟨by simpa using hsp,(Array.getElem?_eq_some_iff.1 e1).1⟩
        · cases hc0
      obtain ⟨rfl,hbs⟩:=hs
      have:=RV.slC (c:=cx0 W) xs vs b off (P.cellsOf e) none cap (by
          intro e1; rw [e1] at hx; simp at hx; omega) (rvs_of_get (by omega) fun i x v p q => (hq i x v p q).1.1) hvs (fun x hxm => by
          obtain ⟨i,hi,rfl⟩:=List.getElem_of_mem hxm
          exact (hq i xs[i] (vs[i]'(by omega)) (List.getElem?_eq_getElem _) (List.getElem?_eq_getElem _)).1.2.1) hbs (by
          intro i cell hi
          obtain ⟨v,g1,g2⟩:=flat_get hm hvs i cell hi
          have hlt:i / P.cellsOf e < len:=by have:=(List.getElem?_eq_some_iff.1 g1).1; omega
          have q:=(hq (i / P.cellsOf e) (xs[i / P.cellsOf e]'(by omega)) v (List.getElem?_eq_getElem _) g1).2.2 (i % P.cellsOf e) (Nat.mod_lt _ hm)
          rw [g2] at q
          have e1:i / P.cellsOf e * P.cellsOf e + i % P.cellsOf e=i:=by rw [Nat.mul_comm]; exact Nat.div_add_mod i _
          rw [e1] at q
          exact add_cell (a:=⟨b,off,none⟩) rfl q) (by omega) (by simp)
      rw [hx] at this
      exact this
    · rename_i fs hu
      simp only [beq_iff_eq] at ok
      unfold td DataW.trod at h
      rw [hu] at h
      have h2:(if cs.length=P.cellsOf t then (fs.toList.mapM fun f => DataW.trod enc P W 0 (fun _ => true) true fuel f.type ((cs.drop f.offset).take (P.cellsOf f.type))).map fun xs => ((.agg (xs.map (·.1)),xs.flatMap (·.2)):DataW H × List MemPlace) else none)=some d:=by
        split at h <;> simp_all
      split at h2
      case isFalse => cases h2
      rename_i hlen
      obtain ⟨xs,hxs,_⟩:=Option.map_eq_some_iff.1 h2
      have go:∀ (fl:List Field) (k:Nat),layF P S fl k=some (P.cellsOf t) → (∀ f ∈ fl,∃ y,DataW.trod enc P W 0 (fun _ => true) true fuel f.type ((cs.drop f.offset).take (P.cellsOf f.type))=some y) →
          ∃ avs,Std (cx0 W) (cs.drop k) avs ∧ ∀ f ∈ fl,k ≤ f.offset ∧ Shp P fuel f.type ((avs.drop (f.offset - k)).take (P.cellsOf f.type)):=by
        intro fl
        induction fl with
        | nil =>
          intro k hk _
          simp only [layF,Option.some.injEq] at hk
          have e:cs.drop k=[]:=by rw [hk,← hlen]; exact List.drop_length
          exact ⟨[],by rw [e]; exact .nil,fun f hf => by cases hf⟩
        | cons f fl ih =>
          intro k hk hall
          unfold layF at hk
          split at hk
          case isFalse => cases hk
          rename_i hc
          obtain ⟨avs,st,sh⟩:=ih _ hk fun g hg => hall g (by simp [hg])
          obtain ⟨y,hy⟩:=hall f (by simp)
          obtain ⟨a0,s0,p0,l0⟩:=trod_shp hS fuel f.type _ y hc.2 hy
          rw [hc.1] at s0 l0
          have al:a0.length=P.cellsOf f.type:=by rw [s0.length]; exact l0
          have e:cs.drop k=(cs.drop k).take (P.cellsOf f.type) ++ cs.drop (k + P.cellsOf f.type):=by
            rw [← List.drop_drop,List.take_append_drop]
          refine ⟨a0 ++ avs,by rw [e]; exact s0.append st,fun g hg => ?_⟩
          rcases List.mem_cons.1 hg with rfl | hg
          · refine ⟨by omega,?_⟩
            rw [hc.1,Nat.sub_self,List.drop_zero,← al,List.take_left']
            · exact p0
            · rfl
          · obtain ⟨g1,g2⟩:=sh g hg
            refine ⟨by omega,?_⟩
            rw [show g.offset - k=a0.length + (g.offset - (k + P.cellsOf f.type)) by omega,List.drop_append,List.drop_of_length_le (by omega),List.nil_append,Nat.add_sub_cancel_left]
            exact g2
      obtain ⟨avs,st,sh⟩:=go fs.toList 0 ok fun f hf => by
        obtain ⟨i,hi,rfl⟩:=List.getElem_of_mem hf
        obtain ⟨y,_,q⟩:=mapM_get hxs i _ (List.getElem?_eq_getElem hi)
        exact ⟨y,q⟩
      rw [List.drop_zero] at st
      refine ⟨avs,st,?_,hlen⟩
      unfold Shp
      rw [hu]
      exact ⟨by rw [st.length]; exact hlen,fun f hf => by have:=(sh f hf).2; rwa [Nat.sub_zero] at this⟩
    · rename_i m e hu
      simp only [Bool.and_eq_true,beq_iff_eq] at ok
      unfold td DataW.trod at h
      rw [hu] at h
      have h2:(if cs.length=P.cellsOf t then ((List.range m).mapM fun i => DataW.trod enc P W 0 (fun _ => true) true fuel e ((cs.drop (i * P.cellsOf e)).take (P.cellsOf e))).map fun xs => ((.agg (xs.map (·.1)),xs.flatMap (·.2)):DataW H × List MemPlace) else none)=some d:=by
        split at h <;> simp_all
      split at h2
      case isFalse => cases h2
      rename_i hlen
      obtain ⟨xs,hxs,_⟩:=Option.map_eq_some_iff.1 h2
      have go:∀ (j:Nat),j ≤ m → ∃ avs,Std (cx0 W) (cs.drop ((m - j) * P.cellsOf e)) avs ∧ ∀ i,m - j ≤ i → i < m → Shp P fuel e ((avs.drop ((i - (m - j)) * P.cellsOf e)).take (P.cellsOf e)):=by
        intro j
        induction j with
        | zero =>
          intro _
          refine ⟨[],?_,fun i h3 h4 => by omega⟩
          rw [Nat.sub_zero,← ok.2,← hlen,List.drop_length]; exact .nil
        | succ j ih =>
          intro hj
          obtain ⟨avs,st,sh⟩:=ih (by omega)
          obtain ⟨y,_,hy⟩:=mapM_get hxs (m - (j + 1)) (m - (j + 1)) (List.getElem?_range (by omega))
          obtain ⟨a0,s0,p0,l0⟩:=trod_shp hS fuel e _ y ok.1 hy
          have al:a0.length=P.cellsOf e:=by rw [s0.length]; exact l0
          have e3:(m - j) * P.cellsOf e=(m - (j + 1)) * P.cellsOf e + P.cellsOf e:=by
            rw [show m - j=(m - (j + 1)) + 1 by omega,Nat.add_mul,Nat.one_mul]
          have e2:cs.drop ((m - (j + 1)) * P.cellsOf e)=(cs.drop ((m - (j + 1)) * P.cellsOf e)).take (P.cellsOf e) ++ cs.drop ((m - j) * P.cellsOf e):=by
            rw [e3,← List.drop_drop,List.take_append_drop]
          refine ⟨a0 ++ avs,by rw [e2]; exact s0.append st,fun i h3 h4 => ?_⟩
          by_cases hi:i=m - (j + 1)
          · subst hi
            rw [Nat.sub_self,Nat.zero_mul,List.drop_zero,← al,List.take_left' rfl]
            exact p0
          · have g2:=sh i (by omega) h4
            rw [show (i - (m - (j + 1))) * P.cellsOf e=a0.length + (i - (m - j)) * P.cellsOf e by
              rw [al,show i - (m - (j + 1))=(i - (m - j)) + 1 by omega,Nat.add_mul,Nat.one_mul,Nat.add_comm],List.drop_append,List.drop_of_length_le (by omega),List.nil_append,Nat.add_sub_cancel_left]
            exact g2
      obtain ⟨avs,st,sh⟩:=go m (Nat.le_refl _)
      rw [Nat.sub_self,Nat.zero_mul,List.drop_zero] at st
      refine ⟨avs,st,?_,hlen⟩
      unfold Shp
      rw [hu]
      exact ⟨by rw [st.length]; exact hlen,fun i hi => by have:=sh i (by omega) hi; rwa [Nat.sub_self,Nat.sub_zero] at this⟩
    · cases ok
end
end Ab
/- What the evaluator may know of a laid argument. Own work, no conditions. -/
set_option linter.unusedVariables false
set_option linter.unusedSimpArgs false
namespace Ab
open Go
theorem scal_cells {a:AV} (h:a.scal=true):a.cells=[a]:=by cases a <;> first | rfl | simp [AV.scal] at h
theorem pureL_all:∀ {l:List AV},(∀ x ∈ l,x.pure=true) → AV.pureL l=true
  | [],_ => rfl
  | x :: l,q => by
    have:=pureL_all (l:=l) fun z hz => q z (List.mem_cons_of_mem _ hz)
    simp [AV.pureL,q x (by simp),this]
theorem allTy {P:Program} {L:List TypeId} (h:L.all (okTy P fun t => L.contains t)=true):∀ t,L.contains t=true → okTy P (fun t => L.contains t) t=true:=fun t ht => List.all_eq_true.1 h t (by simpa using ht)
section
variable {H:Type} {enc:TypeId × Value → H} {P:Program} {W:World}
theorem arg_RV {S:TypeId → Bool} (hS:∀ t,S t=true → okTy P S t=true) {t:TypeId} (ht:S t=true) {base:Nat} {v:Value} (hok:Value.okWide P W .any base t v) {d ps} (h:DataW.Trod enc P W 0 (fun _ => true) true t v d ps) :
    ∃ n a,RV (cx0 W) a v ∧ a.pure=true ∧ a.scal=(!aggTy P t) ∧ (∀ x,a ≠ .tup x) ∧ Shp P n t a.cells:=by
  obtain ⟨n,hn⟩:=h
  obtain ⟨avs,st,sh,hl⟩:=trod_shp hS n t _ _ ht hn
  by_cases ha:aggTy P t=true
  · obtain ⟨cs,rfl⟩:∃ cs,v=.agg cs:=by
      unfold aggTy at ha
      unfold Value.okWide at hok
      split at hok
      · obtain ⟨cs,e,_⟩:=hok; exact ⟨cs,e⟩
      · obtain ⟨cs,e,_⟩:=hok; exact ⟨cs,e⟩
      · rename_i h1 h2
        split at ha
        · rename_i fs e; exact absurd e (h1 fs)
        · rename_i m e2 e; exact absurd e (h2 m e2)
        · cases ha
    exact ⟨n,.agg avs,by have:=RV.agg avs cs.toList st.rv st.sc; simpa [Value.cells] using this,pureL_all st.pu,by rw [ha]; rfl,(fun x e => by cases e),sh⟩
  · have hl1:P.cellsOf t=1:=by
      have ok2:=hS t ht
      unfold okTy at ok2
      unfold aggTy at ha
      split at ok2 <;> simp_all
    have hl2:avs.length=1:=by rw [st.length,hl,hl1]
    obtain ⟨x,rfl⟩:∃ x,avs=[x]:=by
      match avs,hl2 with
      | [x],_ => exact ⟨x,rfl⟩
    have sc:=st.sc x (by simp)
    have hv:∃ y,v.cells.toList=[y]:=by
      match e:v.cells.toList,(by rw [← st.length]; rfl:v.cells.toList.length=1) with
      | [y],_ => exact ⟨y,rfl⟩
    obtain ⟨y,hy⟩:=hv
    have rv:RV (cx0 W) x y:=by have:=st.rv; rw [hy] at this; cases this; assumption
    have e:y=v:=by
      cases v with
      | agg cs =>
        exfalso
        have ok2:=hS t ht
        unfold okTy at ok2
        split at ok2
        · rename_i hu; simp [Value.okWide,hu,Cell.okWide,Cell.ok] at hok
        · rename_i k hu; simp [Value.okWide,hu,Cell.okWide,Cell.ok] at hok
        · rename_i hu; simp [Value.okWide,hu,Cell.okWide,Cell.ok] at hok
        · rename_i e4 hu; simp [Value.okWide,hu,Cell.okWide,Cell.ok] at hok
        · rename_i fs hu; unfold aggTy at ha; rw [hu] at ha; exact ha rfl
        · rename_i m e5 hu; unfold aggTy at ha; rw [hu] at ha; exact ha rfl
        · cases ok2
      | _ => simpa [Value.cells] using hy.symm
    subst e
    exact ⟨n,x,rv,st.pu x (by simp),by simp [sc,ha],(fun z e => by subst e; simp [AV.scal] at sc),by rw [scal_cells sc]; exact sh⟩
end
section
variable {P:Program} {n:Nat} {t:TypeId}
theorem Shp.int {k:IntKind} {cs:List AV} (h:Shp P n t cs) (hu:P.underlying t=some (.int k)):∃ x,cs=[.int k x] ∧ k.min ≤ x ∧ x ≤ k.max:=by
  cases n with
  | zero => exact h.elim
  | succ n =>
    unfold Shp at h
    rw [hu] at h
    obtain ⟨x,e,w⟩:=h
    exact ⟨x,e,by simpa [Lit.wf] using w⟩
theorem Shp.bool {cs:List AV} (h:Shp P n t cs) (hu:P.underlying t=some .bool):∃ x,cs=[.bool x]:=by
  cases n with
  | zero => exact h.elim
  | succ n =>
    unfold Shp at h
    rw [hu] at h
    exact h
theorem Shp.slice {e:TypeId} {cs:List AV} (h:Shp P n t cs) (hu:P.underlying t=some (.slice e)):∃ m f xs,n=m + 1 ∧ cs=[.sl f xs none] ∧ xs.length ≤ maxLen ∧ ∀ x ∈ xs,Shp P m e x.cells ∧ x.scal = !aggTy P e:=by
  cases n with
  | zero => exact h.elim
  | succ n =>
    unfold Shp at h
    rw [hu] at h
    obtain ⟨f,xs,h1,_,h2,h3⟩:=h
    exact ⟨n,f,xs,rfl,h1,h2,h3⟩
theorem Shp.nil {e:TypeId} {f:Bool} {xs:List AV} {c:Option Nat} (h:Shp P n t [.sl f xs c]) (hu:P.underlying t=some (.slice e)):f=true → xs=[]:=by
  cases n with
  | zero => exact h.elim
  | succ n =>
    unfold Shp at h
    rw [hu] at h
    obtain ⟨f',xs',h1,h0,h2,h3⟩:=h
    simp only [List.cons.injEq,AV.sl.injEq,and_true] at h1
    obtain ⟨rfl,rfl,_⟩:=h1
    exact h0
theorem Shp.strct {fs:Array Field} {cs:List AV} (h:Shp P n t cs) (hu:P.underlying t=some (.struct fs)):∃ m,n=m + 1 ∧ cs.length=P.cellsOf t ∧ ∀ f ∈ fs.toList,Shp P m f.type ((cs.drop f.offset).take (P.cellsOf f.type)):=by
  cases n with
  | zero => exact h.elim
  | succ n =>
    unfold Shp at h
    rw [hu] at h
    exact ⟨n,rfl,h⟩
theorem Shp.arr {m:Nat} {e:TypeId} {cs:List AV} (h:Shp P n t cs) (hu:P.underlying t=some (.array m e)):∃ q,n=q + 1 ∧ cs.length=P.cellsOf t ∧ ∀ i,i < m → Shp P q e ((cs.drop (i * P.cellsOf e)).take (P.cellsOf e)):=by
  cases n with
  | zero => exact h.elim
  | succ n =>
    unfold Shp at h
    rw [hu] at h
    exact ⟨n,rfl,h⟩
theorem cells_one {a x:AV} (h:a.cells=[x]) (hs:a.scal=true):a=x:=by rw [scal_cells hs] at h; simpa using h
theorem Shp.ints {e:TypeId} {k:IntKind} {cs:List AV} (h:Shp P n t cs) (hu:P.underlying t=some (.slice e)) (he:P.underlying e=some (.int k)) :
    ∃ (f:Bool) (xs:List Int),cs=[.sl f (xs.map (AV.int k)) none] ∧ xs.length ≤ maxLen ∧ ∀ x ∈ xs,k.min ≤ x ∧ x ≤ k.max:=by
  obtain ⟨m,f,xs,_,rfl,hl,hx⟩:=h.slice hu
  have ag:aggTy P e=false:=by unfold aggTy; rw [he]
  have key:∀ ys:List AV,(∀ x ∈ ys,Shp P m e x.cells ∧ x.scal = !aggTy P e) → ∃ zs:List Int,ys=zs.map (AV.int k) ∧ ∀ x ∈ zs,k.min ≤ x ∧ x ≤ k.max:=by
    intro ys
    induction ys with
    | nil => intro _; exact ⟨[],rfl,fun x h => (by cases h)⟩
    | cons y ys ih =>
      intro q
      obtain ⟨zs,rfl,hz⟩:=ih fun x hx => q x (by simp [hx])
      obtain ⟨q1,q2⟩:=q y (by simp)
      obtain ⟨x,e1,w⟩:=q1.int he
      obtain rfl:=cells_one e1 (by rw [q2,ag]; rfl)
      exact ⟨x :: zs,rfl,fun z hz2 => (List.mem_cons.1 hz2).elim (fun e => e ▸ w) (hz z)⟩
  obtain ⟨zs,rfl,hz⟩:=key xs hx
  exact ⟨f,zs,rfl,by simpa using hl,hz⟩
theorem Shp.bytes {e:TypeId} {cs:List AV} (h:Shp P n t cs) (hu:P.underlying t=some (.slice e)) (he:P.underlying e=some (.int .u8)):∃ f xs,cs=[.sl f (bs xs) none] ∧ xs.length ≤ maxLen ∧ isB xs:=by
  obtain ⟨f,xs,h1,h2,h3⟩:=h.ints hu he
  exact ⟨f,xs,h1,h2,fun x hx => by have:=h3 x hx; simp [IntKind.min,IntKind.max,IntKind.signed,IntKind.bits] at this; omega⟩
end
end Ab
/- Flat values of a type (whole numbers and bools, in structs and arrays) are compared cell by cell. Own work, no conditions. -/
set_option linter.unusedVariables false
set_option linter.unusedSimpArgs false
namespace Ab
open Go
def flatFs (f:TypeId → Option (List Bool)):Nat → List Field → Option (List Bool)
  | _,[] => some []
  | o,x :: r => if x.name ≠ "_" ∧ x.offset=o then (f x.type).bind fun l => (flatFs f (o + l.length) r).map (l ++ ·) else none
def flatB (P:Program):Nat → TypeId → Option (List Bool)
  | 0,_ => none
  | d + 1,t => match P.underlying t,P.info? t with
    | some (.int _),some i => if i.size=1 then some [false] else none
    | some .bool,some i => if i.size=1 then some [true] else none
    | some (.struct fs),some i => if P.stoodInHeld t then none else (flatFs (flatB P d) 0 fs.toList).bind fun l => if i.size=l.length then some l else none
    | some (.array n e),some i => (flatB P d e).bind fun l => if i.size=n * l.length then some (List.replicate n l).flatten else none
    | _,_ => none
def shp:List AV → Option (List Bool)
  | [] => some []
  | .int .. :: r => (shp r).map (false :: ·)
  | .bool _ :: r => (shp r).map (true :: ·)
  | _ :: _ => none
def valF (P:Program) (t:TypeId) (ws:List Value):Value :=
  match P.underlying t with
  | some (.struct _) | some (.array ..) => .agg ⟨ws⟩
  | _ => ws.headD (.pointer none)
theorem flatB_size {P:Program}:∀ {d t l},flatB P d t=some l → P.cellsOf t=l.length ∧ ∃ i,P.info? t=some i
  | 0,t,l,h => by simp [flatB] at h
  | d + 1,t,l,h => by
    unfold flatB at h
    unfold Program.cellsOf
    split at h
    · rename_i i _ hi
      split at h
      · rename_i hs; cases h; rw [hi]; exact ⟨by simpa using hs,i,rfl⟩
      · cases h
    · rename_i i _ hi
      split at h
      · rename_i hs; cases h; rw [hi]; exact ⟨by simpa using hs,i,rfl⟩
      · cases h
    · rename_i fs i _ hi
      split at h
      · cases h
      · cases e:flatFs (flatB P d) 0 fs.toList with
        | none => rw [e] at h; cases h
        | some l' =>
          rw [e] at h
          simp only [Option.bind_some] at h
          split at h
          · rename_i hs; cases h; rw [hi]; exact ⟨by simpa using hs,i,rfl⟩
          · cases h
    · rename_i n e i _ hi
      cases he:flatB P d e with
      | none => rw [he] at h; cases h
      | some l' =>
        rw [he] at h
        simp only [Option.bind_some] at h
        split at h
        · rename_i hs; cases h; rw [hi]; refine ⟨?_,i,rfl⟩; simpa using hs
        · cases h
    · cases h
theorem shp_len:∀ {cs l},shp cs=some l → cs.length=l.length
  | [],l,h => by simp [shp] at h; subst h; rfl
  | x :: r,l,h => by
    cases x <;> simp only [shp,reduceCtorEq] at h
    · obtain ⟨l',h1,rfl⟩:=Option.map_eq_some_iff.1 h; simp [shp_len h1]
    · obtain ⟨l',h1,rfl⟩:=Option.map_eq_some_iff.1 h; simp [shp_len h1]
theorem shp_app:∀ {cs l1 l2},shp cs=some (l1 ++ l2) → shp (cs.take l1.length)=some l1 ∧ shp (cs.drop l1.length)=some l2
  | cs,[],l2,h => ⟨by simp [shp],by simpa using h⟩
  | [],b :: l1,l2,h => by simp [shp] at h
  | x :: r,b :: l1,l2,h => by
    cases x <;> simp only [shp,reduceCtorEq] at h
    · obtain ⟨l',h1,h2⟩:=Option.map_eq_some_iff.1 h
      simp only [List.cons_append,List.cons.injEq] at h2
      obtain ⟨rfl,rfl⟩:=h2
      obtain ⟨a1,a2⟩:=shp_app h1
      exact ⟨by simp [shp,a1],by simpa using a2⟩
    · obtain ⟨l',h1,h2⟩:=Option.map_eq_some_iff.1 h
      simp only [List.cons_append,List.cons.injEq] at h2
      obtain ⟨rfl,rfl⟩:=h2
      obtain ⟨a1,a2⟩:=shp_app h1
      exact ⟨by simp [shp,a1],by simpa using a2⟩
theorem eqL_len:∀ {cs ds b},eqL cs ds=some b → cs.length=ds.length
  | [],[],b,_ => rfl
  | [],_ :: _,b,h => by simp [eqL] at h
  | _ :: _,[],b,h => by simp [eqL] at h
  | x :: cs,y :: ds,b,h => by
    simp only [eqL] at h
    split at h
    · rename_i h1 h2; simp [eqL_len h2]
    · cases h
theorem eqL_app:∀ {n:Nat} {cs ds:List AV} {b},n ≤ cs.length → eqL cs ds=some b → ∃ b1 b2,eqL (cs.take n) (ds.take n)=some b1 ∧ eqL (cs.drop n) (ds.drop n)=some b2 ∧ b=(b1 && b2)
  | 0,cs,ds,b,_,h => ⟨true,b,by simp [eqL],by simpa using h,by simp⟩
  | n + 1,[],ds,b,hn,h => by simp at hn
  | n + 1,x :: cs,[],b,hn,h => by simp [eqL] at h
  | n + 1,x :: cs,y :: ds,b,hn,h => by
    simp only [eqL] at h
    split at h
    · rename_i p q h1 h2
      cases h
      obtain ⟨b1,b2,e1,e2,rfl⟩:=eqL_app (n:=n) (by simpa using hn) h2
      exact ⟨p && b1,b2,by simp [eqL,h1,e1],by simpa using e2,by simp [Bool.and_assoc]⟩
    · cases h
theorem run_part_flat {P:Program} {d e l off} {ws:List Value} (w:World) (hl:flatB P d e=some l) (hi:off + l.length ≤ ws.length) :
    (part e ⟨ws⟩ off).run P w=.ok (valF P e ((ws.drop off).take l.length)) w:=by
  obtain ⟨hs,i,hinf⟩:=flatB_size hl
  have hsz:=run_sizeOf w hinf
  rw [hs] at hsz
  have agg:(⟨ws⟩:Array Value).extract off (off + l.length)=⟨(ws.drop off).take l.length⟩:=by
    apply Array.ext'
    rw [Array.toList_extract]
    simp [List.extract]
  cases d with
  | zero => simp [flatB] at hl
  | succ d =>
    have hl0:=hl
    unfold flatB at hl
    split at hl
    · rename_i hu _
      split at hl
      case isFalse => cases hl
      cases hl
      have hlt:off < ws.length:=by simp at hi; omega
      have h1:(ws.drop off).take 1=[ws[off]]:=by rw [List.drop_eq_getElem_cons hlt]; rfl
      simp [part,isAgg,run_underlying hu,valF,hu,hlt,h1]
    · rename_i hu _
      split at hl
      case isFalse => cases hl
      cases hl
      have hlt:off < ws.length:=by simp at hi; omega
      have h1:(ws.drop off).take 1=[ws[off]]:=by rw [List.drop_eq_getElem_cons hlt]; rfl
      simp [part,isAgg,run_underlying hu,valF,hu,hlt,h1]
    · rename_i hu _
      simp [part,isAgg,run_underlying hu,valF,hu,hsz,agg]
    · rename_i hu _
      simp [part,isAgg,run_underlying hu,valF,hu,hsz,agg]
    · cases hl
def EqF (P:Program) (k:Nat) (t:TypeId) (l:List Bool):Prop :=
  ∀ (c:Cx) cs ds vs us b (w:World),shp cs=some l → eqL cs ds=some b → RVs c cs vs → RVs c ds us → (Op.equalIn k t (valF P t vs) (valF P t us)).run P w=.ok b w
theorem eqFields_flat {P:Program} {d k:Nat} (IH:∀ t l,flatB P d t=some l → EqF P k t l) {c:Cx} (w:World) {xs ys:List Value}:∀ (fs:List Field) (off:Nat) l cs ds vs us b,flatFs (flatB P d) off fs=some l → off ≤ xs.length → off ≤ ys.length → vs=xs.drop off → us=ys.drop off → shp cs=some l → eqL cs ds=some b → RVs c cs vs → RVs c ds us →
    (Op.eqFields k ⟨xs⟩ ⟨ys⟩ fs).run P w=.ok b w
  | [],off,l,cs,ds,vs,us,b,h,_,_,_,_,hsh,he,hv,hu => by
    simp [flatFs] at h; subst h
    have:cs=[]:=List.eq_nil_of_length_eq_zero (shp_len hsh)
    subst this
    cases ds with
    | nil => simp [eqL] at he; subst he; simp [Op.eqFields]
    | cons _ _ => simp [eqL] at he
  | f :: fs,off,l,cs,ds,vs,us,b,h,ho1,ho2,hvs,hus,hsh,he,hv,hu => by
    simp only [flatFs] at h
    split at h
    case isFalse => cases h
    rename_i hn
    cases hf:flatB P d f.type with
    | none => rw [hf] at h; cases h
    | some l1 =>
    rw [hf] at h
    simp only [Option.bind_some] at h
    obtain ⟨l2,h2,rfl⟩:=Option.map_eq_some_iff.1 h
    obtain ⟨s1,s2⟩:=shp_app hsh
    have hlen:=shp_len hsh
    simp only [List.length_append] at hlen
    obtain ⟨b1,b2,e1,e2,rfl⟩:=eqL_app (n:=l1.length) (by omega) he
    have hvl:=hv.length
    have hul:=hu.length
    have hdl:=eqL_len he
    have hx':cs.length=xs.length - off:=by rw [hvl,hvs,List.length_drop]
    have hy':ds.length=ys.length - off:=by rw [hul,hus,List.length_drop]
    have p1:=run_part_flat (ws:=xs) (off:=f.offset) w hf (by rw [hn.2]; omega)
    have p2:=run_part_flat (ws:=ys) (off:=f.offset) w hf (by rw [hn.2]; omega)
    rw [hn.2,← hvs] at p1
    rw [hn.2,← hus] at p2
    have q:=IH f.type l1 hf c _ _ _ _ b1 w s1 e1 (hv.take l1.length) (hu.take l1.length)
    have r:=eqFields_flat (xs:=xs) (ys:=ys) IH w fs (off + l1.length) l2 (cs.drop l1.length) (ds.drop l1.length) (vs.drop l1.length) (us.drop l1.length) b2 h2 (by omega) (by omega) (by rw [hvs,List.drop_drop]) (by rw [hus,List.drop_drop]) s2 e2 (hv.drop _) (hu.drop _)
    have p1':(part f.type ⟨xs⟩ f.offset).run P w=.ok (valF P f.type (vs.take l1.length)) w:=by rw [hn.2]; exact p1
    have p2':(part f.type ⟨ys⟩ f.offset).run P w=.ok (valF P f.type (us.take l1.length)) w:=by rw [hn.2]; exact p2
    simp only [Op.eqFields,hn.1,ne_eq,not_false_eq_true,if_true,Sem.run_bind,p1',p2',q,Result.andThen_ok]
    cases b1 with
    | false => simp
    | true => simpa using r
theorem eqItems_flat {P:Program} {d k:Nat} (IH:∀ t l,flatB P d t=some l → EqF P k t l) {c:Cx} (w:World) {xs ys:List Value} {e:TypeId} {l1:List Bool} (hf:flatB P d e=some l1):∀ (n o:Nat) cs ds vs us b,o * l1.length ≤ xs.length → o * l1.length ≤ ys.length → vs=xs.drop (o * l1.length) → us=ys.drop (o * l1.length) → shp cs=some (List.replicate n l1).flatten → eqL cs ds=some b → RVs c cs vs → RVs c ds us →
    (Op.eqItems k e (P.cellsOf e) ⟨xs⟩ ⟨ys⟩ (List.range' o n)).run P w=.ok b w
  | 0,o,cs,ds,vs,us,b,_,_,_,_,hsh,he,hv,hu => by
    have:cs=[]:=List.eq_nil_of_length_eq_zero (by simpa using shp_len hsh)
    subst this
    cases ds with
    | nil => simp [eqL] at he; subst he; simp [Op.eqItems]
    | cons _ _ => simp [eqL] at he
  | n + 1,o,cs,ds,vs,us,b,ho1,ho2,hvs,hus,hsh,he,hv,hu => by
    rw [List.replicate_succ,List.flatten_cons] at hsh
    obtain ⟨s1,s2⟩:=shp_app hsh
    have hlen:=shp_len hsh
    simp only [List.length_append] at hlen
    obtain ⟨b1,b2,e1,e2,rfl⟩:=eqL_app (n:=l1.length) (by omega) he
    have hvl:=hv.length
    have hul:=hu.length
    have hdl:=eqL_len he
    have hx':cs.length=xs.length - o * l1.length:=by rw [hvl,hvs,List.length_drop]
    have hy':ds.length=ys.length - o * l1.length:=by rw [hul,hus,List.length_drop]
    have p1:=run_part_flat (ws:=xs) (off:=o * l1.length) w hf (by omega)
    have p2:=run_part_flat (ws:=ys) (off:=o * l1.length) w hf (by omega)
    rw [← hvs] at p1
    rw [← hus] at p2
    have q:=IH e l1 hf c _ _ _ _ b1 w s1 e1 (hv.take l1.length) (hu.take l1.length)
    have hoo:(o + 1) * l1.length=o * l1.length + l1.length:=by rw [Nat.add_mul,Nat.one_mul]
    have r:=eqItems_flat (xs:=xs) (ys:=ys) IH w hf n (o + 1) (cs.drop l1.length) (ds.drop l1.length) (vs.drop l1.length) (us.drop l1.length) b2 (by omega) (by omega) (by rw [hvs,List.drop_drop,hoo]) (by rw [hus,List.drop_drop,hoo]) s2 e2 (hv.drop _) (hu.drop _)
    have hc:P.cellsOf e=l1.length:=(flatB_size hf).1
    rw [List.range'_succ]
    rw [hc] at r ⊢
    simp only [Op.eqItems,Sem.run_bind,p1,p2,q,Result.andThen_ok]
    cases b1 with
    | false => simp
    | true => simpa using r
theorem eq_flat {P:Program}:∀ d k t l,flatB P d t=some l → EqF P (d + k) t l
  | 0,k,t,l,h => by simp [flatB] at h
  | d + 1,k,t,l,h => by
    intro c cs ds vs us b w hsh he hv hu
    have IH:∀ t l,flatB P d t=some l → EqF P (d + k) t l:=fun t l => eq_flat d k t l
    rw [show d + 1 + k=(d + k) + 1 by omega]
    unfold flatB at h
    split at h
    · rename_i kk i hty _
      split at h
      case isFalse => cases h
      cases h
      cases cs with
      | nil => simp [shp] at hsh
      | cons x r =>
        have hr:r=[]:=by
          have:=shp_len hsh
          exact List.eq_nil_of_length_eq_zero (by simpa using this)
        subst hr
        cases ds with
        | nil => simp [eqL] at he
        | cons y r2 =>
          have:r2=[]:=List.eq_nil_of_length_eq_zero (by have:=eqL_len he; simpa using this.symm)
          subst this
          cases hv with
          | cons _ v _ _ hv1 hv2 =>
          cases hv2
          cases hu with
          | cons _ u _ _ hu1 hu2 =>
          cases hu2
          cases x <;> simp only [shp,reduceCtorEq] at hsh
          · cases y <;> simp only [eqL,eq1,reduceCtorEq] at he
            split at he
            case h_2 => cases he
            rename_i p q h1 h2
            split at h1
            case isFalse => cases h1
            rename_i hkk
            cases h1
            cases he
            cases h2
            subst hkk
            cases hv1; cases hu1
            simp [valF,hty,run_equalIn_int w (d + k) t _ _ _ _ hty]
          · simp [shp] at hsh
    · rename_i i hty _
      split at h
      case isFalse => cases h
      cases h
      cases cs with
      | nil => simp [shp] at hsh
      | cons x r =>
        have hr:r=[]:=by
          have:=shp_len hsh
          exact List.eq_nil_of_length_eq_zero (by simpa using this)
        subst hr
        cases ds with
        | nil => simp [eqL] at he
        | cons y r2 =>
          have:r2=[]:=List.eq_nil_of_length_eq_zero (by have:=eqL_len he; simpa using this.symm)
          subst this
          cases hv with
          | cons _ v _ _ hv1 hv2 =>
          cases hv2
          cases hu with
          | cons _ u _ _ hu1 hu2 =>
          cases hu2
          cases x <;> simp only [shp,reduceCtorEq] at hsh
          · simp [shp] at hsh
          · cases y <;> simp only [eqL,eq1,reduceCtorEq] at he
            cases he
            cases hv1; cases hu1
            simp [valF,hty,run_equalIn_bool w (d + k) t _ _ hty]
    · rename_i fs i hty _
      split at h
      · cases h
      rename_i hst
      cases e:flatFs (flatB P d) 0 fs.toList with
      | none => rw [e] at h; cases h
      | some l' =>
      rw [e] at h
      simp only [Option.bind_some] at h
      split at h
      case isFalse => cases h
      cases h
      have hfo:P.fieldsOf t=fs:=by simp [Program.fieldsOf,hty]
      have:=run_equalIn_struct w (d + k) t ⟨vs⟩ ⟨us⟩ (by rw [hfo]; exact hty) (by simpa using hst)
      rw [hfo] at this
      have hva:∀ ws,valF P t ws=.agg ⟨ws⟩:=fun ws => by simp [valF,hty]
      rw [hva,hva,this]
      exact eqFields_flat (xs:=vs) (ys:=us) IH w fs.toList 0 l cs ds vs us b e (by simp) (by simp) (by simp) (by simp) hsh he hv hu
    · rename_i n e i hty _
      cases hf:flatB P d e with
      | none => rw [hf] at h; cases h
      | some l1 =>
      rw [hf] at h
      simp only [Option.bind_some] at h
      split at h
      case isFalse => cases h
      cases h
      obtain ⟨_,ie,hie⟩:=flatB_size hf
      have hva:∀ ws,valF P t ws=.agg ⟨ws⟩:=fun ws => by simp [valF,hty]
      rw [hva,hva,run_equalIn_array w (d + k) ⟨vs⟩ ⟨us⟩ hty hie,List.range_eq_range']
      exact eqItems_flat (xs:=vs) (ys:=us) IH w hf n 0 cs ds vs us b (by simp) (by simp) (by simp) (by simp) hsh he hv hu
    · cases h
theorem fitZ_shp:∀ {z cs l},fitZ z cs=true → shp z=some l → shp cs=some l
  | [],[],l,_,h => h
  | [],_ :: _,l,h,_ => by simp [fitZ] at h
  | .int .. :: z,.int .. :: c,l,h,hz => by
    simp only [fitZ] at h
    simp only [shp] at hz ⊢
    obtain ⟨l',h1,rfl⟩:=Option.map_eq_some_iff.1 hz
    rw [fitZ_shp h h1]; rfl
  | .bool _ :: z,.bool _ :: c,l,h,hz => by
    simp only [fitZ] at h
    simp only [shp] at hz ⊢
    obtain ⟨l',h1,rfl⟩:=Option.map_eq_some_iff.1 hz
    rw [fitZ_shp h h1]; rfl
  | x :: z,[],l,h,_ => by cases x <;> simp [fitZ] at h
  | x :: z,y :: c,l,h,hz => by
    cases x <;> cases y <;> simp_all [fitZ,shp]
    all_goals
      obtain ⟨l',h1,rfl⟩:=hz
      exact ⟨l',fitZ_shp h h1,rfl⟩
theorem CmpOK.of {P:Program} {t:TypeId} {z:List AV} {l:List Bool} (d:Nat) (hd:d ≤ 10000) (h1:flatB P d t=some l) (h2:shp z=some l) (h3:(match P.underlying t with | some (.struct _) | some (.array ..) => true | _ => false)=true) (h4:P.eqGuardType P.depth t=false):CmpOK P t z:=by
  intro c cs ds vs us b w ox oy hz he hv hu
  have key:=eq_flat d (10000 - d) t l h1 c cs ds vs us b w (fitZ_shp hz h2) he hv hu
  rw [show d + (10000 - d)=10000 by omega] at key
  have hva:∀ ws,valF P t ws=.agg ⟨ws⟩:=fun ws => by
    unfold valF
    split at h3
    · rfl
    · rfl
    · cases h3
  rw [hva,hva] at key
  constructor
  · simp only [Sem.run_bind,run_eqGuard_agg w .eql t ox oy ⟨vs⟩ ⟨us⟩ h4,Result.andThen_ok,run_eql_struct,key]
  · simp only [Sem.run_bind,run_eqGuard_agg w .neq t ox oy ⟨vs⟩ ⟨us⟩ h4,Result.andThen_ok,run_neq_struct,key]
end Ab
