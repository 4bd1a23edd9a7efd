/- The evaluator: own work, no conditions. -/
import Derived.Test.YtbiildmljbcmeaaDoorB24
import Derived.Below
import Derived.ChangeSlices
/- A region whose order is open comes to what its text says: the proof. Own work, no conditions. -/
set_option linter.unusedVariables false
set_option linter.unusedSimpArgs false
namespace Ab
open Go
theorem with_drawn {base E n t tmps L c0} {c:Cx} (w:World) (hh:w.heap=c.w.heap) (h1:w.os=c.w.os) (h2:w.tape=c.w.tape) (h3:w.output=c.w.output) (H:HR base c) (G:GOK E c) (F:FR c n t tmps) (X:ExtL L base c0 c) :
    HR base { c with w:=w } ∧ GOK E { c with w:=w } ∧ FR { c with w:=w } n t tmps ∧ ExtL L base c0 { c with w:=w }:=by
  have X1:ExtL L base c { c with w:=w }:=⟨h1,h2,h3,by rw [hh]; exact Nat.le_refl _,fun b _ _ => by rw [hh],fun _ h => h,fun k _ h => ⟨h,rfl⟩,fun b h => .inl h,fun b h => .inl h⟩
  have rv:∀ x v,RV c x v → RV { c with w:=w } x v:=fun x v hx => hx.mono (c:=c) (c':={ c with w:=w }) (fun b hb => ⟨hb,by rw [hh]⟩) fun k _ h => ⟨h,rfl⟩
  refine ⟨⟨?_,H.mt,H.sld,H.inj,fun b hb => by rw [hh]; exact H.rd b hb⟩,fun i cs hi => rv _ _ (G i cs hi),⟨F.1,fun i v hi => rv _ _ (F.2 i v hi)⟩,X.trans X1⟩
  intro k o hk hl
  obtain ⟨arr,ee,fr,g1,g2,g3,g4,g4b,g5⟩:=H.obj k o hk hl
  refine ⟨arr,ee,fr,?_,g2,g3,g4,g4b,fun i x hx => ?_⟩
  · rw [hh]; exact g1
  · obtain ⟨v,q1,q2,q3⟩:=g5 i x hx
    exact ⟨v,q1,rv _ _ q2,q3⟩
theorem filterMap_get {α}:∀ (l:List α),(List.range l.length).filterMap (l[·]?)=l
  | [] => rfl
  | x :: l => by
    rw [List.length_cons,List.range_succ_eq_map,List.filterMap_cons]
    simp only [List.getElem?_cons_zero,List.filterMap_map,Function.comp_def,List.getElem?_cons_succ]
    rw [filterMap_get l]
theorem range'_get {α} (l:List α):∀ (n k:Nat),k + n ≤ l.length → (List.range' k n).filterMap (l[·]?)=(l.drop k).take n
  | 0,k,h => by simp
  | n + 1,k,h => by
    rw [List.range'_succ,List.filterMap_cons]
    have hk:k < l.length:=by omega
    have e:l[k]? = some (l[k]'hk):=by simp
    rw [e]
    simp only
    rw [range'_get l n (k + 1) (by omega),List.drop_eq_getElem_cons hk,List.take_succ_cons]
theorem no_anc {ops:Array Oper} {listed:Array Bool} (edges:∀ j o,ops[j]? = some o → ∀ e ∈ o.after,Region.binds .any e=true → e.on < j)
    (hdc:∀ j o,ops[j]? = some o → listed.getD j false=true → ∀ e ∈ o.after,Region.binds .any e=true → listed.getD e.on false=true) :
    ∀ j,j < ops.size → (∀ o,ops[j]? = some o → ∀ e ∈ o.after,Region.binds .any e=true → listed.getD e.on false=true) → ∀ k,((Region.before ops).getD j 0).testBit k=true → listed.getD k false=true:=by
  intro j
  induction j using Nat.strongRecOn with
  | _ j ihj =>
    intro hj hcl k hk
    obtain ⟨o,b1,e,b2,b3,b4⟩:=before_bit ops hk
    rcases b4 with b4 | b4
    · rw [← b4]; exact hcl o b1 e b2 b3
    · have hlt:=edges j o b1 e b2 b3
      exact ihj e.on hlt (by omega) (fun o' ho' => hdc e.on o' ho' (hcl o b1 e b2 b3)) k b4
theorem walk {P E} (O:EnvOK P E) {call:CallF} (K:CallOK P E call) (C:CP call) {Ds:List Deferred} {base L lvl n:Nat} {zs:List Nat} {ops:Array Oper} {l:List Oper} (hl:eraseL zs ops ops.toList=some l) {top:Nat} (htop:top ≤ ops.size) {fs:Nat → List Key}
    (edges:∀ j o,ops[j]? = some o → ∀ e ∈ o.after,Region.binds .any e=true → e.on < j)
    (dr:∀ i j,i < j → j < top → ((Region.before ops).getD j 0).testBit i=true ∨ ∃ x y,l[i]? = some x ∧ l[j]? = some y ∧ apartN x y=true ∧ (ClsP x y ∨ ∀ k ∈ fs i,k ∉ fs j))
    (blk:∀ j,top ≤ j → j < ops.size → (∀ i,i < top → ((Region.before ops).getD j 0).testBit i=true) ∨ ∃ q,top ≤ q ∧ ((Region.before ops).getD j 0).testBit q=true) {s':St} {c0:Cx} {Q:Exit → Act → World → Prop}
    (fin:∀ (listed:Array Bool) (s:St) (c:Cx) (a:Act),listed.size=ops.size → (∀ j,j < top → listed.getD j false=true) → (∀ j,top ≤ j → listed.getD j false=false) → (∀ j o,ops[j]? = some o → listed.getD j false=true → ∀ e ∈ o.after,Region.binds .any e=true → listed.getD e.on false=true) →
      Eqv s' s → HR base c → base ≤ c.w.heap.size → GOK E c → c.h=s.h → FR c n s.t a.tmps → a.defers=Ds → ExtL L base c0 c → wpAny P .any ops Q (ops.size - top) listed a c.w) :
    ∀ m (listed:Array Bool) (s s'':St) (c:Cx) (a:Act),listed.size=ops.size → m=(rest top listed).length → (∀ j,top ≤ j → listed.getD j false=false) →
      (∀ j o,ops[j]? = some o → listed.getD j false=true → ∀ e ∈ o.after,Region.binds .any e=true → listed.getD e.on false=true) →
      aOps E call lvl n ((rest top listed).filterMap (l[·]?)) s=some (.normal,s'') → footL E call lvl n ((rest top listed).filterMap (l[·]?)) s=some ((rest top listed).map fs) → Eqv s' s'' → HR base c → base ≤ c.w.heap.size → GOK E c → c.h=s.h → FR c n s.t a.tmps → a.defers=Ds → ExtL L base c0 c →
      wpAny P .any ops Q (m + (ops.size - top)) listed a c.w:=by
  obtain ⟨g1,g2⟩:=eraseL_get hl
  have hlen:l.length=ops.size:=by simpa using g1
  intro m
  induction m with
  | zero =>
    intro listed s s'' c a hsz hfu hun hdc hr hft he H hb G hh F hde X
    have hnil:rest top listed=[]:=List.eq_nil_of_length_eq_zero hfu.symm
    rw [Nat.zero_add]
    rw [hnil] at hr
    simp only [List.filterMap_nil,aOps,Option.some.injEq,Prod.mk.injEq,true_and] at hr
    subst hr
    refine fin listed s c a hsz (fun j hj => ?_) hun hdc he H hb G hh F hde X
    cases hlj:listed.getD j false with
    | true => rfl
    | false =>
      exfalso
      have:j ∈ rest top listed:=by
        unfold rest; rw [List.mem_filter,List.mem_range]
        refine ⟨hj,?_⟩
        rw [getD_ft (by omega),hlj]; rfl
      rw [hnil] at this; cases this
  | succ m ih =>
    intro listed s s'' c a hsz hfu hun hdc hr hft he H hb G hh F hde X
    rw [show m + 1 + (ops.size - top)=m + (ops.size - top) + 1 by omega]
    have conc:Conc E base n s:=⟨c,a.tmps,H,hb,G,hh,F⟩
    refine ⟨fun hno => ?_,fun i hi => ?_⟩
    · -- the least of them is ready
      exfalso
      cases hrs:rest top listed with
      | nil => rw [hrs] at hfu; simp at hfu
      | cons i r =>
        have hi:i ∈ rest top listed:=by rw [hrs]; simp
        unfold rest at hi
        rw [List.mem_filter,List.mem_range] at hi
        have hl0:listed.getD i true=false:=by simpa using hi.2
        obtain ⟨pre,post,p1,p2,_⟩:=rest_split (n:=top) (by omega) hi.1 hl0
        have hpre:pre=[]:=by
          cases pre with
          | nil => rfl
          | cons k pre =>
            rw [hrs] at p1
            simp only [List.cons_append,List.cons.injEq] at p1
            have:=(p2 k (by simp)).1
            omega
        have:i ∈ Region.ready .any ops listed:=ready_mem.2 ⟨by omega,hl0,ops[i]'(by omega),by simp,fun e he hb => by
          have hlt:=edges i _ (by simp) e he hb
          have hnot:listed.getD e.on true ≠ false:=fun hf => by
            obtain ⟨pre',post',p1',p2',_⟩:=rest_split (n:=top) (by omega) (by omega:e.on < top) hf
            rw [hrs] at p1'
            cases pre' with
            | nil => simp only [List.nil_append,List.cons.injEq] at p1'; omega
            | cons k pre' =>
              simp only [List.cons_append,List.cons.injEq] at p1'
              have:=(p2' k (by simp)).1
              omega
          rw [getD_ft (by omega)] at hnot
          simpa using hnot⟩
        rw [hno] at this; cases this
    · obtain ⟨q1,q2,oi,q3,q4⟩:=ready_mem.1 hi
      -- nothing left before it names it
      have noanc:∀ j,j < ops.size → (∀ o,ops[j]? = some o → ∀ e ∈ o.after,Region.binds .any e=true → listed.getD e.on false=true) → ∀ k,((Region.before ops).getD j 0).testBit k=true → listed.getD k false=true:=by
        intro j
        induction j using Nat.strongRecOn with
        | _ j ihj =>
          intro hj hcl k hk
          obtain ⟨o,b1,e,b2,b3,b4⟩:=before_bit ops hk
          rcases b4 with b4 | b4
          · rw [← b4]; exact hcl o b1 e b2 b3
          · have hlt:=edges j o b1 e b2 b3
            exact ihj e.on hlt (by omega) (fun o' ho' => hdc e.on o' ho' (hcl o b1 e b2 b3)) k b4
      -- it is one of this stretch
      have hit:i < top:=by
        cases Nat.lt_or_ge i top with
        | inl h => exact h
        | inr h =>
          exfalso
          cases hrs:rest top listed with
          | nil => rw [hrs] at hfu; simp at hfu
          | cons k r =>
            have hk:k ∈ rest top listed:=by rw [hrs]; simp
            unfold rest at hk
            rw [List.mem_filter,List.mem_range] at hk
            rcases blk i h q1 with hb2 | ⟨q,hq,hb2⟩
            · have h1:=noanc i q1 (fun o ho => by rw [q3] at ho; cases ho; exact q4) k (hb2 k hk.1)
              have h2:listed.getD k true=false:=by simpa using hk.2
              rw [getD_tf h2] at h1; cases h1
            · have h1:=noanc i q1 (fun o ho => by rw [q3] at ho; cases ho; exact q4) q hb2
              rw [hun q hq] at h1; cases h1
      obtain ⟨pre,post,p1,p2,p3⟩:=rest_split (n:=top) (by omega) hit q2
      obtain ⟨_,x,_,hx,hex⟩:=g2 i (by simpa using q1)
      have hrun:=hr
      rw [p1,List.filterMap_append,List.filterMap_cons,hx] at hrun
      have hil:i < l.length:=by omega
      have hfrun:=hft
      rw [p1,List.filterMap_append,List.filterMap_cons,hx,List.map_append,List.map_cons] at hfrun
      have hpz:∀ q:List Nat,(∀ k ∈ q,k < i) → (q.map fs).length=(q.filterMap (l[·]?)).length ∧ ∀ p ∈ (q.filterMap (l[·]?)).zip (q.map fs),∃ k ∈ q,l[k]? = some p.1 ∧ fs k=p.2:=by
        intro q
        induction q with
        | nil => intro _; exact ⟨rfl,fun p hp => by simp at hp⟩
        | cons k q ihq =>
          intro hq
          obtain ⟨i1,i2⟩:=ihq fun y hy => hq y (by simp [hy])
          have hk1:k < i:=hq k (by simp)
          have hk:k < l.length:=by omega
          have e1:l[k]? = some (l[k]'hk):=by simp
          have f1:(k :: q).filterMap (l[·]?)=l[k]'hk :: q.filterMap (l[·]?):=by rw [List.filterMap_cons,e1]
          rw [f1,List.map_cons]
          refine ⟨by simp [i1],fun p hp => ?_⟩
          rw [List.zip_cons_cons] at hp
          rcases List.mem_cons.1 hp with rfl | hp
          · exact ⟨k,by simp,e1,rfl⟩
          · obtain ⟨k',h1,h2⟩:=i2 p hp
            exact ⟨k',by simp [h1],h2⟩
      obtain ⟨z1,z2⟩:=hpz pre fun k hk => (p2 k hk).1
      obtain ⟨s2,r1,r2,r5⟩:=front O K C conc z1 (fun p hp => by
        obtain ⟨k,hk,hky,hkf⟩:=z2 p hp
        obtain ⟨k1,k2⟩:=p2 k hk
        rcases dr k i k1 hit with hb | ⟨x',y',e1,e2,e3,e4⟩
        · have:=noanc i q1 (fun o ho => by rw [q3] at ho; cases ho; exact q4) k hb
          rw [getD_tf k2] at this; cases this
        · rw [hx] at e2; cases e2
          rw [hky] at e1; cases e1
          refine ⟨e3,e4.imp (fun z => z) fun hm => ?_⟩
          rw [← hkf]; exact hm) hrun hfrun
      obtain ⟨s1,r3,r4⟩:=aOps_cons.1 r1
      rw [← List.filterMap_append,← p3] at r4
      obtain ⟨s1',l2,u1,u2,u3⟩:=footL_cons.1 r5
      rw [r3] at u1; cases u1
      simp only [List.cons.injEq] at u3
      rw [← u3.2,← List.filterMap_append,← List.map_append,← p3] at u2
      -- one step
      have hst:aOps E call lvl n [x] s=some (.normal,s1):=aOps_cons.2 ⟨s1,r3,rfl⟩
      have one:=aOps_sound O K (base:=base) (L:=L) (ops:=ops) [i] [oi] [x] s .normal s1 c c a (by simp [q3]) (fun j hj => by
        have:j=0:=by simpa using hj
        subst this
        obtain ⟨o,o',e1,e2,e3⟩:=g2 i (by simpa using q1)
        refine ⟨oi,x,rfl,rfl,?_⟩
        rw [hx] at e2; cases e2
        have:o=oi:=by simpa [q3] using e1.symm
        rw [← this]; exact e3) rfl hst H hb G hh F hde (.refl _ _ _)
      rw [wpOps_cons] at one
      refine wpOp_both ?_ ?_ one
      · rintro a1 w1 ⟨c1,rfl,t2,t3,t4,t5,t6,t7⟩
        refine ih (listed.setIfInBounds i true) s1 s2 c1 a1 (by simpa using hsz) ?_ (fun j hj => by rw [getD_set _ (by omega),if_neg (by omega)]; exact hun j hj) ?_ r4 u2 (he.trans r2) t3 (Nat.le_trans hb t4.size) (G.extL t4 H) t2 t5 t6 (X.trans t4)
        · rw [p3]; rw [p1] at hfu; simp at hfu ⊢; omega
        · intro j o hj hlj e hee hbb
          rw [getD_set _ (by omega)] at hlj ⊢
          split
          · rfl
          · split at hlj
            · rename_i e0; subst e0; rw [q3] at hj; cases hj; exact q4 e hee hbb
            · exact hdc j o hj hlj e hee hbb
      · rintro e a1 w1 hne ⟨c1,_,_,_,_,_,_,t7⟩
        exact absurd t7 hne
theorem drawOK_eq {ops:Array Oper} {l ps} (hd:drawOK ops l ps=true):(∀ k,barOf true ps=some k → barOK ops k=true) ∧ (∀ j o,ops[j]? = some o → ∀ e ∈ o.after,Region.binds .any e=true → e.on < j) ∧
    ∀ i j,i < j → j < ops.size → ((Region.before ops).getD j 0).testBit i=true ∨ ∃ x y,l[i]? = some x ∧ l[j]? = some y ∧ apartN x y=true ∧ (ClsP x y ∨ (i,j) ∈ ps):=by
  unfold drawOK at hd
  simp only [Bool.and_eq_true] at hd
  obtain ⟨h0,hd⟩:=hd
  refine ⟨fun k hk => by rw [hk] at h0; exact h0,fun j o ho e he hb => ?_,fun i j hi hj => ?_⟩
  · have hj:j < ops.size:=(Array.getElem?_eq_some_iff.1 ho).1
    have h1:=List.all_eq_true.1 hd j (List.mem_range.2 hj)
    rw [Bool.and_eq_true] at h1
    have h2:=h1.1
    rw [ho] at h2
    simp only [Option.map_some,Option.getD_some] at h2
    have:=Array.all_eq_true'.1 h2 e he
    rw [hb] at this
    simpa using this
  · have h1:=List.all_eq_true.1 hd j (List.mem_range.2 hj)
    rw [Bool.and_eq_true] at h1
    have h2:=List.all_eq_true.1 h1.2 i (List.mem_range.2 hi)
    rw [Bool.or_eq_true] at h2
    refine h2.imp (fun h => h) fun h2 => ?_
    split at h2
    · rename_i x y e1 e2
      rw [Bool.or_eq_true] at h2
      rcases h2 with h2 | h2
      · exact ⟨x,y,e1,e2,apart_N h2,.inl (apart_P h2)⟩
      · rw [Bool.and_eq_true] at h2
        refine ⟨x,y,e1,e2,h2.1,.inr ?_⟩
        obtain ⟨p,hp,hp2⟩:=List.any_eq_true.1 h2.2
        simp only [Bool.and_eq_true,beq_iff_eq] at hp2
        obtain ⟨a,b⟩:=p
        simp only at hp2
        rw [← hp2.1,← hp2.2]; exact hp
    · cases h2
theorem rest_none (n m:Nat):rest n (Array.replicate m false)=(List.range n).filter fun i => decide (i < m):=by
  unfold rest
  apply List.filter_congr
  intro k hk
  rw [Array.getD_eq_getD_getElem?,Array.getElem?_replicate]
  split
  · rename_i h; simp [h]
  · rename_i h; simp [h]
theorem end_any {P E base n L Ds} {ops:Array Oper} {c0:Cx} {s':St} {listed:Array Bool} {s:St} {c:Cx} {a:Act} (hsz:listed.size=ops.size) (hall:∀ j,j < ops.size → listed.getD j false=true) (he:Eqv s' s) (H:HR base c) (G:GOK E c) (hh:c.h=s.h) (F:FR c n s.t a.tmps) (hde:a.defers=Ds) (X:ExtL L base c0 c) :
    wpAny P .any ops (Post Ds L base n c0 .normal s') 0 listed a c.w:=by
  refine ⟨?_,?_⟩
  · cases hrd:Region.ready .any ops listed with
    | nil => rfl
    | cons i r =>
      exfalso
      have hi:i ∈ Region.ready .any ops listed:=by rw [hrd]; simp
      obtain ⟨q1,q2,_⟩:=ready_mem.1 hi
      have:=hall i q1
      rw [getD_tf q2] at this; cases this
  · obtain ⟨e1,e2,e3⟩:=eqv_ctx H s'.h fun k => by rw [hh]; exact (he.h k).symm
    refine ⟨{ c with h:=s'.h },rfl,rfl,e1,X.trans (e3 L),⟨F.1,fun i v hi => e2 _ _ (F.2 i v ?_)⟩,hde,rfl⟩
    rw [he.t i]; exact hi
theorem draw_plain {P E} (O:EnvOK P E) (hm:P.follows .mixedOrders=true):∀ (Ds:List Deferred) (call:CallF) (_:CallOK P E call) (_:CP call) (base L lvl n:Nat) (zs:List Nat) (ops:Array Oper) (l:List Oper) (ps:List (Nat × Nat)) (s:St) (s':St) (c:Cx) (a:Act) (id:Nat),
    eraseL zs ops ops.toList=some l → drawOK ops l ps=true → aOps E call lvl n l s=some (.normal,s') → dynChk E call lvl n l s ps=true → HR base c → base ≤ c.w.heap.size → GOK E c → c.h=s.h → FR c n s.t a.tmps → a.defers=Ds →
    (Code.region id ops true).wp P (Post Ds L base n c .normal s') a c.w:=by
  intro Ds call K C base L lvl n zs ops l ps s0 s' c0 a0 id hl hd hrun hdyn H0 hb0 G0 hh0 F0 hde0
  refine wp_region_any hm ?_
  obtain ⟨g1,g2⟩:=eraseL_get hl
  have hlen:l.length=ops.size:=by simpa using g1
  obtain ⟨_,edges,dr⟩:=drawOK_eq hd
  obtain ⟨fs,hfs,hfl⟩:=foot_total hrun
  have hdis:∀ i j,(i,j) ∈ ps → ∀ k ∈ (fs[i]?).getD [],k ∉ (fs[j]?).getD []:=by
    cases ps with
    | nil => intro i j h; cases h
    | cons p r =>
      simp only [dynChk,hfs] at hdyn
      intro i j hm
      have:∀ (q:List (Nat × Nat)),dynOK fs q=true → (i,j) ∈ q → ∃ a b,fs[i]? = some a ∧ fs[j]? = some b ∧ ∀ k ∈ a,k ∉ b:=by
        intro q
        induction q with
        | nil => intro _ h; cases h
        | cons y q ih =>
          intro hq hmm
          obtain ⟨y1,y2⟩:=y
          simp only [dynOK,Bool.and_eq_true] at hq
          rcases List.mem_cons.1 hmm with e | hmm
          · cases e
            have h1:=hq.1
            split at h1
            · rename_i a b e1 e2
              refine ⟨a,b,e1,e2,fun k hk hkb => ?_⟩
              have:=List.all_eq_true.1 h1 k hk
              rw [inKs_of hkb] at this; cases this
            · cases h1
          · exact ih hq.2 hmm
      obtain ⟨a,b,e1,e2,e3⟩:=this _ hdyn hm
      rw [e1,e2]; exact e3
  obtain ⟨H1,G1,F1,X1⟩:=with_drawn { c0.w with drawn:=c0.w.drawn + 1 } rfl rfl rfl rfl H0 G0 F0 (ExtL.refl L base c0)
  have hrest:rest ops.size (Array.replicate ops.size false)=List.range ops.size:=by
    rw [rest_none,List.filter_eq_self]
    intro k hk
    simpa using hk
  have key:=walk O K C (Ds:=Ds) (base:=base) (L:=L) (lvl:=lvl) (n:=n) hl (top:=ops.size) (Nat.le_refl _) (fs:=fun i => (fs[i]?).getD []) edges
    (fun i j hi hj => (dr i j hi hj).imp (fun z => z) fun ⟨x,y,e1,e2,e3,e4⟩ => ⟨x,y,e1,e2,e3,e4.imp (fun z => z) fun h => hdis i j h⟩)
    (fun j h1 h2 => by omega) (s':=s') (c0:=c0) (Q:=Post Ds L base n c0 .normal s')
    (fun listed s c a hsz hall _ _ he H hb G hh F hde X => by rw [Nat.sub_self]; exact end_any hsz hall he H G hh F hde X)
    ops.size (Array.replicate ops.size false) s0 s' { c0 with w:={ c0.w with drawn:=c0.w.drawn + 1 } } a0 (by simp) (by rw [hrest]; simp)
  rw [Nat.sub_self,Nat.add_zero] at key
  refine key ?_ ?_ ?_ ?_ (.refl _) H1 hb0 G1 hh0 F1 hde0 X1
  · intro j hj
    rw [Array.getD_eq_getD_getElem?,Array.getElem?_replicate,if_neg (by omega)]; rfl
  · intro j o _ h
    rw [Array.getD_eq_getD_getElem?,Array.getElem?_replicate] at h
    split at h <;> simp at h
  · rw [hrest,← hlen,filterMap_get]; exact hrun
  · rw [hrest,← hlen,filterMap_get,hfs]
    congr 1
    apply List.ext_getElem?
    intro i
    rw [List.getElem?_map]
    by_cases hi:i < l.length
    · rw [List.getElem?_range hi]
      have:i < fs.length:=by omega
      simp [this]
    · rw [List.getElem?_eq_none (show fs.length ≤ i by omega),List.getElem?_eq_none (show (List.range l.length).length ≤ i by simpa using hi)]; rfl
theorem bindS_some {x:Option (AExit × St)} {f r} (h:bindS x f=some r):∃ s,x=some (.normal,s) ∧ f s=some r:=by
  unfold bindS at h
  split at h
  · exact ⟨_,rfl,h⟩
  · cases h
theorem rest_upto {n k:Nat} {listed:Array Bool} (hs:n ≤ listed.size) (hk:k ≤ n) (h1:∀ j,j < k → listed.getD j false=true) (h2:∀ j,k ≤ j → listed.getD j false=false):rest n listed=List.range' k (n - k):=by
  unfold rest
  have e:List.range n=List.range' 0 k ++ List.range' k (n - k):=by
    rw [List.range_eq_range']
    have:n=k + (n - k):=by omega
    conv => lhs; rw [this,← List.range'_append_1]
    simp
  rw [e,List.filter_append]
  have a1:(List.range' 0 k).filter (fun i => !listed.getD i true)=[]:=by
    rw [List.filter_eq_nil_iff]
    intro j hj
    rw [List.mem_range'_1] at hj
    rw [getD_ft (by omega),h1 j (by omega)]; simp
  have a2:(List.range' k (n - k)).filter (fun i => !listed.getD i true)=List.range' k (n - k):=by
    rw [List.filter_eq_self]
    intro j hj
    rw [List.mem_range'_1] at hj
    rw [getD_ft (by omega),h2 j (by omega)]; rfl
  rw [a1,a2]; rfl
theorem draw_bar {P E} (O:EnvOK P E) (hm:P.follows .mixedOrders=true):∀ (Ds:List Deferred) (call sc:CallF) (_:CallOK P E call) (_:CallOK P E sc) (_:CP sc) (base L lvl n:Nat) (zs:List Nat) (ops:Array Oper) (l:List Oper) (ps:List (Nat × Nat)) (k:Nat) (s:St) (s':St) (c:Cx) (a:Act) (id:Nat),
    eraseL zs ops ops.toList=some l → drawOK ops l ps=true → barOf true ps=some k → barX E call sc lvl n l k s=some (.normal,s') → HR base c → base ≤ c.w.heap.size → GOK E c → c.h=s.h → FR c n s.t a.tmps → a.defers=Ds →
    (Code.region id ops true).wp P (Post Ds L base n c .normal s') a c.w:=by
  intro Ds call sc KC K C base L lvl n zs ops l ps k s0 s' c0 a0 id hl hd hbar hx H0 hb0 G0 hh0 F0 hde0
  refine wp_region_any hm ?_
  obtain ⟨g1,g2⟩:=eraseL_get hl
  have hlen:l.length=ops.size:=by simpa using g1
  obtain ⟨hbo,edges,dr⟩:=drawOK_eq hd
  have hbk:=hbo k hbar
  unfold barOK at hbk
  simp only [Bool.and_eq_true,decide_eq_true_eq] at hbk
  obtain ⟨⟨hk,hbefore⟩,hafter⟩:=hbk
  have bef:∀ i,i < k → ((Region.before ops).getD k 0).testBit i=true:=fun i hi => List.all_eq_true.1 hbefore i (List.mem_range.2 hi)
  have aft:∀ j,k < j → j < ops.size → ((Region.before ops).getD j 0).testBit k=true:=fun j hj hj2 => by
    have:=List.all_eq_true.1 hafter j (List.mem_range.2 hj2)
    rw [Bool.or_eq_true] at this
    rcases this with h | h
    · have:j ≤ k:=by simpa using h
      omega
    · exact h
  have hps:∀ i j,i < j → (i,j) ∈ ps → False:=by
    intro i j hij hmem
    unfold barOf at hbar
    split at hbar
    · rename_i p q
      split at hbar
      · rename_i hpq
        simp only [List.mem_singleton,Prod.mk.injEq] at hmem
        omega
      · cases hbar
    · cases hbar
  have dr':∀ (fs:Nat → List Key) i j,i < j → j < ops.size → ((Region.before ops).getD j 0).testBit i=true ∨ ∃ x y,l[i]? = some x ∧ l[j]? = some y ∧ apartN x y=true ∧ (ClsP x y ∨ ∀ k ∈ fs i,k ∉ fs j):=fun fs i j hi hj =>
    (dr i j hi hj).imp (fun z => z) fun ⟨x,y,e1,e2,e3,e4⟩ => ⟨x,y,e1,e2,e3,e4.imp (fun z => z) fun h => (hps i j hi h).elim⟩
  unfold barX at hx
  obtain ⟨s1,r1,hx⟩:=bindS_some hx
  obtain ⟨s2,r2,hx⟩:=bindS_some hx
  obtain ⟨s3,r3,hx⟩:=bindS_some hx
  simp only [Option.some.injEq,Prod.mk.injEq,true_and] at hx
  subst hx
  obtain ⟨f1,hf1,hl1⟩:=foot_total r1
  obtain ⟨f2,hf2,hl2⟩:=foot_total r3
  obtain ⟨H1,G1,F1,X1⟩:=with_drawn { c0.w with drawn:=c0.w.drawn + 1 } rfl rfl rfl rfl H0 G0 F0 (ExtL.refl L base c0)
  have hrest:rest k (Array.replicate ops.size false)=List.range k:=by
    rw [rest_none,List.filter_eq_self]
    intro i hi
    have:=List.mem_range.1 hi
    simp; omega
  have hmapf:∀ (f:List (List Key)) (m o:Nat),f.length=m → (List.range' o m).map (fun i => (f[i - o]?).getD [])=f:=by
    intro f m o hfm
    apply List.ext_getElem?
    intro i
    rw [List.getElem?_map]
    by_cases hi:i < m
    · rw [List.getElem?_range' hi]
      have:i < f.length:=by omega
      simp [this]
    · rw [List.getElem?_eq_none (show f.length ≤ i by omega),List.getElem?_eq_none (show (List.range' o m).length ≤ i by simpa using hi)]; rfl
  -- behind all that go before it
  have mid:∀ (listed:Array Bool) (s:St) (c:Cx) (a:Act),listed.size=ops.size → (∀ j,j < k → listed.getD j false=true) → (∀ j,k ≤ j → listed.getD j false=false) → (∀ j o,ops[j]? = some o → listed.getD j false=true → ∀ e ∈ o.after,Region.binds .any e=true → listed.getD e.on false=true) →
      Eqv s1 s → HR base c → base ≤ c.w.heap.size → GOK E c → c.h=s.h → FR c n s.t a.tmps → a.defers=Ds → ExtL L base c0 c → wpAny P .any ops (Post Ds L base n c0 .normal s3) (ops.size - k) listed a c.w:=by
    intro listed s c a hsz hall hun hdc he H hb G hh F hde X
    rw [show ops.size - k=ops.size - (k + 1) + 1 by omega]
    have hkl:listed.getD k true=false:=by rw [getD_ft (by omega)]; exact hun k (Nat.le_refl _)
    refine ⟨fun hno => ?_,fun i hi => ?_⟩
    · exfalso
      have:k ∈ Region.ready .any ops listed:=ready_mem.2 ⟨hk,hkl,ops[k],by simp,fun e hee hbb => hall _ (edges k _ (by simp) e hee hbb)⟩
      rw [hno] at this; cases this
    · obtain ⟨q1,q2,oi,q3,q4⟩:=ready_mem.1 hi
      have hik:i=k:=by
        rcases Nat.lt_trichotomy i k with h | h | h
        · exfalso
          have:=hall i h
          rw [getD_tf q2] at this; cases this
        · exact h
        · exfalso
          have:=no_anc edges hdc i q1 (fun o ho => by rw [q3] at ho; cases ho; exact q4) k (aft i h q1)
          rw [hun k (Nat.le_refl _)] at this; cases this
      subst hik
      obtain ⟨e1,e2,e3⟩:=eqv_ctx H s1.h fun q => by rw [hh]; exact (he.h q).symm
      obtain ⟨o,x,ho,hxx,hex⟩:=g2 i (by simpa using q1)
      have hoi:o=oi:=by simpa [q3] using ho.symm
      have hil:i < l.length:=by omega
      have htake:(l.drop i).take 1=[x]:=by
        rw [List.drop_eq_getElem_cons hil]
        have:l[i]'hil=x:=by
          have:=hxx
          rw [List.getElem?_eq_getElem hil] at this
          exact Option.some.inj this
        simp [this]
      rw [htake] at r2
      have one:=aOps_sound O KC (Ds:=Ds) (base:=base) (L:=L) (ops:=ops) [i] [oi] [x] s1 .normal s2 { c with h:=s1.h } { c with h:=s1.h } a (by simp [q3]) (fun j hj => by
        have:j=0:=by simpa using hj
        subst this
        refine ⟨oi,x,rfl,rfl,?_⟩
        rw [← hoi]; exact hex) rfl r2 e1 hb (fun g cs hg => e2 _ _ (G g cs hg)) rfl ⟨F.1,fun i v hi => e2 _ _ (F.2 i v (by rw [he.t i]; exact hi))⟩ hde (.refl _ _ _)
      rw [wpOps_cons] at one
      refine wpOp_both ?_ ?_ one
      · rintro a1 w1 ⟨c1,rfl,t2,t3,t4,t5,t6,t7⟩
        have X1':ExtL L base c0 c1:=(X.trans (e3 L)).trans t4
        have hr2:rest ops.size (listed.setIfInBounds i true)=List.range' (i + 1) (ops.size - (i + 1)):=by
          refine rest_upto (by simp; omega) (by omega) (fun j hj => ?_) (fun j hj => ?_)
          · rw [getD_set _ (by omega)]
            split
            · rfl
            · exact hall j (by omega)
          · rw [getD_set _ (by omega),if_neg (by omega)]; exact hun j (by omega)
        have key:=walk O K C (Ds:=Ds) (base:=base) (L:=L) (lvl:=lvl) (n:=n) hl (top:=ops.size) (Nat.le_refl _) (fs:=fun q => (f2[q - (i + 1)]?).getD []) edges
          (fun p q hp hq => dr' (fun q => (f2[q - (i + 1)]?).getD []) p q hp hq) (fun j h1 h2 => by omega) (s':=s3) (c0:=c0) (Q:=Post Ds L base n c0 .normal s3)
          (fun listed s c a hsz hall _ _ he H hb G hh F hde X => by rw [Nat.sub_self]; exact end_any hsz hall he H G hh F hde X)
          (ops.size - (i + 1)) (listed.setIfInBounds i true) s2 s3 c1 a1 (by simpa using hsz) (by rw [hr2]; simp)
        rw [Nat.sub_self,Nat.add_zero] at key
        refine key (fun j hj => ?_) ?_ ?_ ?_ (.refl _) t3 (Nat.le_trans hb t4.size) (GOK.extL (E:=E) (c:={ c with h:=s1.h }) (fun g cs hg => e2 _ _ (G g cs hg)) t4 e1) t2 t5 t6 X1'
        · rw [Array.getD_eq_getD_getElem?,Array.getElem?_eq_none (by simp; omega)]; rfl
        · intro j o hj hlj e hee hbb
          rw [getD_set _ (by omega)] at hlj ⊢
          split
          · rfl
          · split at hlj
            · rename_i e0; subst e0; rw [q3] at hj; cases hj; exact q4 e hee hbb
            · exact hdc j o hj hlj e hee hbb
        · rw [hr2,range'_get l _ _ (by omega),List.take_of_length_le (by rw [List.length_drop]; omega)]; exact r3
        · rw [hr2,range'_get l _ _ (by omega),List.take_of_length_le (by rw [List.length_drop]; omega),hf2,hmapf f2 _ _ (by rw [hl2,List.length_drop]; omega)]
      · rintro e a1 w1 hne ⟨c1,_,_,_,_,_,_,t7⟩
        exact absurd t7 hne
  have key:=walk O K C (Ds:=Ds) (base:=base) (L:=L) (lvl:=lvl) (n:=n) hl (top:=k) (by omega) (fs:=fun q => (f1[q - 0]?).getD []) edges
    (fun p q hp hq => dr' (fun q => (f1[q - 0]?).getD []) p q hp (by omega)) (fun j h1 h2 => by
      rcases Nat.lt_or_ge k j with h | h
      · exact .inr ⟨k,Nat.le_refl _,aft j h h2⟩
      · have:j=k:=by omega
        subst this; exact .inl bef) (s':=s1) (c0:=c0) (Q:=Post Ds L base n c0 .normal s3) mid
    k (Array.replicate ops.size false) s0 s1 { c0 with w:={ c0.w with drawn:=c0.w.drawn + 1 } } a0 (by simp) (by rw [hrest]; simp)
  rw [show k + (ops.size - k)=ops.size by omega] at key
  have htk:(List.range k).filterMap (l[·]?)=l.take k:=by
    rw [List.range_eq_range',range'_get l k 0 (by omega)]; simp
  refine key ?_ ?_ ?_ ?_ (.refl _) H1 hb0 G1 hh0 F1 hde0 X1
  · intro j hj
    rw [Array.getD_eq_getD_getElem?,Array.getElem?_replicate]
    split <;> rfl
  · intro j o _ h
    rw [Array.getD_eq_getD_getElem?,Array.getElem?_replicate] at h
    split at h <;> simp at h
  · rw [hrest,htk]; exact r1
  · rw [hrest,htk,hf1,List.range_eq_range',hmapf f1 k 0 (by rw [hl1,List.length_take]; omega)]
theorem draw_sound {P E} (O:EnvOK P E) (hm:P.follows .mixedOrders=true):DrawSound P E:=⟨draw_plain O hm,draw_bar O hm⟩
end Ab
/- What a translation's tables owe, by sums that the kernel works out. Own work, no conditions. -/
set_option linter.unusedVariables false
set_option linter.unusedSimpArgs false
namespace Ab
open Go
def fnSum (P:Program) (dyn:Nat → List (Nat × Nat)) (f:FuncId):Option (Option Code × Nat × List ResultVar × Bool) :=
  (P.funcs[f]?).bind fun F => F.body.map fun code => (eraseC dyn code,F.ntmps,F.results.toList,F.name == "runtime.NumGoroutine")
theorem FnOK.of {P:Program} {f:FuncId} {fn:AFn} (h:fnSum P fn.dyn f=some (some fn.body,fn.ntmps,fn.results,false)):FnOK P f fn:=by
  unfold fnSum at h
  cases hF:P.funcs[f]? with
  | none => rw [hF] at h; cases h
  | some F =>
    rw [hF] at h
    cases hb:F.body with
    | none => simp [hb] at h
    | some code =>
      simp only [Option.bind_some,hb,Option.map_some,Option.some.injEq,Prod.mk.injEq] at h
      exact ⟨F,code,hF,hb,h.1,h.2.1,h.2.2.1,h.2.2.2⟩
abbrev FSum:=Option (((Nat × FuncId × List Nat) × List Code × List Code) × Nat × List ResultVar × Bool)
def grdSum (P:Program) (dyn:Nat → List (Nat × Nat)) (f:FuncId) (k:Nat):FSum :=
  (P.funcs[f]?).bind fun F => F.body.bind fun code =>
    match (flat code)[k]? with
    | some (.region _ ops false) => (dfrOps ops).bind fun d => (eraseCs dyn ((flat code).take k)).bind fun a => (eraseCs dyn ((flat code).drop (k + 1))).map fun b => ((d,a,b),F.ntmps,F.results.toList,F.name == "runtime.NumGoroutine")
    | _ => none
def recSum (P:Program) (dyn:Nat → List (Nat × Nat)) (g:FuncId):Option ((List Nat × List Code) × Nat × List ResultVar × Bool) :=
  (P.funcs[g]?).bind fun G => G.body.bind fun code =>
    match flat code with
    | .region _ ops false :: rest => (recOps ops).bind fun rs => (eraseCs dyn rest).map fun b => ((rs,b),G.ntmps,G.results.toList,G.name == "runtime.NumGoroutine")
    | _ => none
theorem GrdOK.of {P:Program} {f:FuncId} {fn:AFn} {gd:Grd} (k:Nat) (h:grdSum P fn.dyn f k=some (((gd.t,gd.g,gd.caps),gd.pre,gd.post),fn.ntmps,fn.results,false))
    (h2:recSum P gd.gfn.dyn gd.g=some ((gd.rs,gd.gpost),gd.gfn.ntmps,[],false)):GrdOK P f fn gd:=by
  constructor
  · unfold grdSum at h
    cases hF:P.funcs[f]? with
    | none => rw [hF] at h; cases h
    | some F =>
    rw [hF] at h
    cases hb:F.body with
    | none => simp [hb] at h
    | some code =>
    simp only [Option.bind_some,hb] at h
    split at h
    case h_2 => cases h
    rename_i id ops hk
    cases hd:dfrOps ops with
    | none => rw [hd] at h; cases h
    | some d =>
    rw [hd] at h
    cases ha:eraseCs fn.dyn ((flat code).take k) with
    | none => rw [ha] at h; cases h
    | some a =>
    rw [ha] at h
    cases hb2:eraseCs fn.dyn ((flat code).drop (k + 1)) with
    | none => rw [hb2] at h; cases h
    | some b =>
    rw [hb2] at h
    simp only [Option.bind_some,Option.map_some,Option.some.injEq,Prod.mk.injEq] at h
    obtain ⟨⟨rfl,rfl,rfl⟩,e1,e2,e3⟩:=h
    exact ⟨F,code,k,ops,id,rfl,hb,e1,e2,e3,hk,hd,ha,hb2⟩
  · unfold recSum at h2
    cases hF:P.funcs[gd.g]? with
    | none => rw [hF] at h2; cases h2
    | some G =>
    rw [hF] at h2
    cases hb:G.body with
    | none => simp [hb] at h2
    | some code =>
    simp only [Option.bind_some,hb] at h2
    split at h2
    case h_2 => cases h2
    rename_i id ops rest hk
    cases hd:recOps ops with
    | none => rw [hd] at h2; cases h2
    | some rs =>
    rw [hd] at h2
    cases ha:eraseCs gd.gfn.dyn rest with
    | none => rw [ha] at h2; cases h2
    | some a =>
    rw [ha] at h2
    simp only [Option.bind_some,Option.map_some,Option.some.injEq,Prod.mk.injEq] at h2
    obtain ⟨⟨e0,e1⟩,e2,e3,e4⟩:=h2
    subst e0 e1
    exact ⟨G,code,ops,id,rest,rfl,hb,e2,e3,e4,hk,hd,ha⟩
def AllFn (P:Program) (gr:FuncId → Option Grd):Nat → List (Option AFn) → Prop
  | _,[] => True
  | i,none :: r => AllFn P gr (i + 1) r
  | i,some fn :: r => ((gr i=none → FnOK P i fn) ∧ ∀ gd,gr i=some gd → GrdOK P i fn gd) ∧ AllFn P gr (i + 1) r
theorem AllFn.get {P:Program} {gr:FuncId → Option Grd}:∀ {l:List (Option AFn)} {i k fn},AllFn P gr i l → l[k]? = some (some fn) → (gr (i + k)=none → FnOK P (i + k) fn) ∧ ∀ gd,gr (i + k)=some gd → GrdOK P (i + k) fn gd
  | [],i,k,fn,_,h => by simp at h
  | none :: r,i,k,fn,ha,h => by
    cases k with
    | zero => simp at h
    | succ k =>
      have:=AllFn.get (l:=r) ha (by simpa using h)
      rwa [show i + (k + 1)=i + 1 + k by omega]
  | some f :: r,i,k,fn,ha,h => by
    cases k with
    | zero => simp at h; subst h; exact ha.1
    | succ k =>
      have:=AllFn.get (l:=r) ha.2 (by simpa using h)
      rwa [show i + (k + 1)=i + 1 + k by omega]
theorem no_none {α:Type} {x:α} {p:Prop} (h:some x=none):p:=by cases h
theorem no_some {α:Type} {x:α} {p:Prop} (h:none=some x):p:=by cases h
def tySum (P:Program) (t:TypeId) (τ:Ty):Option (Nat × Nat × Option (List AV) × Bool) :=
  (P.info? t).bind fun i => i.zero.bind fun z => (P.underlying t).map fun d => (i.size,i.bytes,ofVL z.cells.toList,dOK d τ)
theorem TyOK.of {P:Program} {t:TypeId} {τ:TyI} (h:tySum P t τ.d=some (τ.size,τ.bytes,some τ.zero,true)) (h2:(τ.zero.all AV.scal && (τ.zero.length == τ.size) && AV.pureL τ.zero)=true):TyOK P t τ:=by
  unfold tySum at h
  cases hi:P.info? t with
  | none => rw [hi] at h; cases h
  | some i =>
    rw [hi] at h
    cases hz:i.zero with
    | none => simp [hz] at h
    | some z =>
      cases hd:P.underlying t with
      | none => simp [hz,hd] at h
      | some d =>
        simp only [Option.bind_some,hz,hd,Option.map_some,Option.some.injEq,Prod.mk.injEq] at h
        simp only [Bool.and_eq_true,beq_iff_eq] at h2
        exact ⟨⟨i,z,hi,h.1,h.2.1,hz,h.2.2.1,h2.1.1,h2.1.2,h2.2⟩,d,hd,h.2.2.2⟩
def tySums (P:Program):Nat → List (Option TyI) → List (Option (Nat × Nat × Option (List AV) × Bool))
  | _,[] => []
  | i,none :: r => tySums P (i + 1) r
  | i,some τ :: r => tySum P i τ.d :: tySums P (i + 1) r
def tyTold:List (Option TyI) → List (Option (Nat × Nat × Option (List AV) × Bool))
  | [] => []
  | none :: r => tyTold r
  | some τ :: r => some (τ.size,τ.bytes,some τ.zero,true) :: tyTold r
def tyFit:List (Option TyI) → Bool
  | [] => true
  | none :: r => tyFit r
  | some τ :: r => (τ.zero.all AV.scal && (τ.zero.length == τ.size) && AV.pureL τ.zero) && tyFit r
theorem tys_get {P:Program}:∀ {l:List (Option TyI)} {i k τ},tySums P i l=tyTold l → tyFit l=true → l[k]? = some (some τ) → TyOK P (i + k) τ
  | [],i,k,τ,_,_,h => by simp at h
  | none :: r,i,k,τ,ha,hf,h => by
    cases k with
    | zero => simp at h
    | succ k =>
      have:=tys_get (l:=r) ha hf (by simpa using h)
      rwa [show i + (k + 1)=i + 1 + k by omega]
  | some f :: r,i,k,τ,ha,hf,h => by
    simp only [tySums,tyTold,List.cons.injEq] at ha
    simp only [tyFit,Bool.and_eq_true] at hf
    cases k with
    | zero => simp at h; subst h; exact TyOK.of ha.1 (by simp only [Bool.and_eq_true]; exact hf.1)
    | succ k =>
      have:=tys_get (l:=r) ha.2 hf.2 (by simpa using h)
      rwa [show i + (k + 1)=i + 1 + k by omega]
def cmps:Nat → List (Option TyI) → List (TypeId × List AV)
  | _,[] => []
  | i,none :: r => cmps (i + 1) r
  | i,some τ :: r => if τ.cmp then (i,τ.zero) :: cmps (i + 1) r else cmps (i + 1) r
theorem cmps_get:∀ {l:List (Option TyI)} {i k τ},l[k]? = some (some τ) → τ.cmp=true → (i + k,τ.zero) ∈ cmps i l
  | [],i,k,τ,h,_ => by simp at h
  | none :: r,i,k,τ,h,hc => by
    cases k with
    | zero => simp at h
    | succ k =>
      have:=cmps_get (l:=r) (i:=i + 1) (k:=k) (by simpa using h) hc
      rw [show i + (k + 1)=i + 1 + k by omega]; exact this
  | some f :: r,i,k,τ,h,hc => by
    unfold cmps
    cases k with
    | zero => simp at h; subst h; simp [hc]
    | succ k =>
      have:=cmps_get (l:=r) (i:=i + 1) (k:=k) (by simpa using h) hc
      rw [show i + (k + 1)=i + 1 + k by omega]
      split
      · exact List.mem_cons_of_mem _ this
      · exact this
theorem getT_some {α}:∀ {l:List (Option α)} {i:Nat} {x:α},getT l i=some x → l[i]? = some (some x)
  | [],i,x,h => by simp [getT] at h
  | y :: r,0,x,h => by simp [getT] at h; simp [h]
  | y :: r,i + 1,x,h => by simpa using getT_some (l:=r) (i:=i) h
theorem EnvOK.of {P:Program} {E:Env} {l:List (Option TyI)} (hE:E.ty=getT l) (h1:tySums P 0 l=tyTold l) (h2:tyFit l=true) (h3:∀ t ∈ cmps 0 l,CmpOK P t.1 t.2) (h4:∀ f,E.ext f=true → ExtOK P f):EnvOK P E where
  ext:=h4
  ty:=fun t τ h => by
    rw [hE] at h
    have:=tys_get (i:=0) h1 h2 (getT_some h)
    rwa [Nat.zero_add] at this
  cmp:=fun t τ h hc => by
    rw [hE] at h
    have:=cmps_get (i:=0) (getT_some h) hc
    rw [Nat.zero_add] at this
    exact h3 _ this
theorem FnsOK.of {P:Program} {E:Env} {l:List (Option AFn)} (hE:E.fn=getT l) (h:AllFn P E.grd 0 l) (hp:∀ f p,E.prim f=some p → PrimOK P E f p):FnsOK P E where
  fn:=fun f fn hf hg => by
    rw [hE] at hf
    have:=AllFn.get h (getT_some hf)
    rw [Nat.zero_add] at this
    exact this.1 hg
  grd:=fun f fn gd hf hg => by
    rw [hE] at hf
    have:=AllFn.get h (getT_some hf)
    rw [Nat.zero_add] at this
    exact this.2 gd hg
  prim:=hp
def cx0 (w:World):Cx:=⟨w,fun b => b < w.heap.size,fun _ => (0,0),[]⟩
theorem law_true {P:Program} {E:Env} (O:EnvOK P E) (Fs:FnsOK P E) (hm:P.follows .mixedOrders=true) {n:Nat} {f:FuncId} {args:List AV} {vals:List Value} {h:Heap} {w:World} (G:GOK E (cx0 w))
    (hrun:aCall E n 0 f args []=some (.ret (.bool true),h)) (hv:RVs (cx0 w) args vals) :
    ∃ g vals',(callFunc f ⟨vals⟩).run P w=.ok (.enter g vals') w ∧ Calls P g vals' w fun e w' => e=.returned (.bool true) ∧ w'.os=w.os ∧ w'.tape=w.tape ∧ w'.output=w.output ∧ w.heap.size ≤ w'.heap.size ∧ ∀ b,b < w.heap.size → w'.heap[b]? = w.heap[b]?:=by
  let c:Cx:=cx0 w
  have no:∀ k o,lookK c.h k=some o → False:=fun k o hk => by cases hk
  have H:HR w.heap.size c:=⟨fun k o hk => (no k o hk).elim,fun k o hk => (no k o hk).elim,fun k o hk => (no k o hk).elim,fun k o _ _ hk => (no k o hk).elim,fun b hb => hb⟩
  obtain ⟨g,vals',h1,h2⟩:=aCall_sound O Fs (draw_sound O hm) n w.heap.size c 0 f args vals _ _ hrun H (Nat.le_refl _) G hv
  refine ⟨g,vals',h1,h2.mono ?_⟩
  rintro e w' ⟨c',rfl,_,H',X,val,rfl,hr⟩
  cases hr
  exact ⟨rfl,X.os,X.tape,X.output,X.size,fun b hb => X.frame b hb fun ⟨k,o,hk,_⟩ => by cases hk⟩
end Ab
/- More rounds tell the same. Own work, no conditions. -/
set_option linter.unusedVariables false
set_option linter.unusedSimpArgs false
namespace Ab
open Go
def CallLe (c c':CallF):Prop:=∀ lvl f a h r,c lvl f a h=some r → c' lvl f a h=some r
theorem aOps_le {E lvl n} {c c':CallF} (hc:CallLe c c'):∀ {l s r},aOps E c lvl n l s=some r → aOps E c' lvl n l s=some r
  | [],s,r,h => h
  | o :: l,s,r,h => by
    simp only [aOps] at h ⊢
    cases hw:wantedA s.t o with
    | none => rw [hw] at h; cases h
    | some b =>
      rw [hw] at h
      cases b with
      | false =>
        simp only at h ⊢
        cases hp:putT n s.t o.dst (.tup []) with
        | none => rw [hp] at h; cases h
        | some t => rw [hp] at h; exact aOps_le hc h
      | true =>
        simp only at h ⊢
        cases ho:aOp E lvl s.t s.h o with
        | none => rw [ho] at h; cases h
        | some q =>
          rw [ho] at h
          cases q with
          | val v g =>
            simp only at h ⊢
            cases hp:putT n s.t o.dst v with
            | none => rw [hp] at h; cases h
            | some t => rw [hp] at h; exact aOps_le hc h
          | skip g =>
            simp only at h ⊢
            cases hp:putT n s.t o.dst (.tup []) with
            | none => rw [hp] at h; cases h
            | some t => rw [hp] at h; exact aOps_le hc h
          | panic v => exact h
          | call f args =>
            simp only at h ⊢
            cases hcl:c (o.dst.getD 0) f args s.h with
            | none => rw [hcl] at h; cases h
            | some p =>
              rw [hcl] at h
              rw [hc _ _ _ _ _ hcl]
              obtain ⟨q,g⟩:=p
              cases q with
              | ret v =>
                simp only at h ⊢
                cases hp:putT n s.t o.dst v with
                | none => rw [hp] at h; cases h
                | some t => rw [hp] at h; exact aOps_le hc h
              | panic ch => exact h
theorem aLoop_le {b b':St → Option (AExit × St)} {cl:St → St} (hb:∀ s r,b s=some r → b' s=some r):∀ {k k' s r},k ≤ k' → aLoop b cl k s=some r → aLoop b' cl k' s=some r
  | 0,k',s,r,_,h => by simp [aLoop] at h
  | k + 1,0,s,r,hk,h => by omega
  | k + 1,k' + 1,s,r,hk,h => by
    simp only [aLoop] at h ⊢
    cases hq:b (cl s) with
    | none => rw [hq] at h; cases h
    | some p =>
      rw [hq] at h
      rw [hb _ _ hq]
      obtain ⟨e,s'⟩:=p
      cases e with
      | normal => exact aLoop_le hb (by omega) h
      | _ => exact h
theorem footL_le {E lvl n} {c c':CallF} (hc:CallLe c c'):∀ {l s r},footL E c lvl n l s=some r → footL E c' lvl n l s=some r
  | [],s,r,h => h
  | o :: l,s,r,h => by
    simp only [footL] at h ⊢
    cases hq:aOps E c lvl n [o] s with
    | none => rw [hq] at h; cases h
    | some p =>
      obtain ⟨e,s1⟩:=p
      rw [hq] at h
      rw [aOps_le hc hq]
      cases e with
      | normal =>
        simp only at h ⊢
        cases hf:footL E c lvl n l s1 with
        | none => rw [hf] at h; cases h
        | some fs => rw [hf] at h; rw [footL_le hc hf]; exact h
      | _ => cases h
theorem dynChk_le {E lvl n} {c c':CallF} (hc:CallLe c c') {l s}:∀ {ps},dynChk E c lvl n l s ps=true → dynChk E c' lvl n l s ps=true
  | [],_ => rfl
  | p :: ps,h => by
    simp only [dynChk] at h ⊢
    cases hf:footL E c lvl n l s with
    | none => rw [hf] at h; cases h
    | some fs => rw [hf] at h; rw [footL_le hc hf]; exact h
theorem bindS_le {x y:Option (AExit × St)} {f g:St → Option (AExit × St)} {r} (hxy:∀ r,x=some r → y=some r) (hfg:∀ s r,f s=some r → g s=some r) (h:bindS x f=some r):bindS y g=some r:=by
  unfold bindS at h ⊢
  split at h
  · rename_i s
    rw [hxy _ rfl]
    exact hfg s r h
  · cases h
theorem barX_le {E lvl n} {c c' d d':CallF} (hc:CallLe c c') (hd:CallLe d d') {ops q s r} (h:barX E c d lvl n ops q s=some r):barX E c' d' lvl n ops q s=some r:=by
  unfold barX at h ⊢
  exact bindS_le (fun r => aOps_le hd) (fun s1 r1 => bindS_le (fun r => aOps_le hc) fun s2 r2 => bindS_le (fun r => aOps_le hd) fun s3 r3 e => e) h
theorem aCode_le {E lvl fn} {c c' d d':CallF} {k k':Nat} (hc:CallLe c c') (hd:CallLe d d') (hk:k ≤ k'):∀ (code:Code) {s r},aCode E c d k lvl fn code s=some r → aCode E c' d' k' lvl fn code s=some r
  | .skip,s,r,h => h
  | .ret,s,r,h => h
  | .exit _,s,r,h => h
  | .region id ops draw,s,r,h => by
    simp only [aCode] at h ⊢
    cases hbar:barOf draw (fn.dyn id) with
    | some q =>
      rw [hbar] at h
      simp only at h ⊢
      exact bindS_le (fun r => barX_le hc hd) (fun s r e => e) h
    | none =>
    rw [hbar] at h
    simp only at h ⊢
    have hc2:CallLe (if draw=true then d else c) (if draw=true then d' else c'):=by
      split
      · exact hd
      · exact hc
    cases hq:aOps E (if draw=true then d else c) lvl fn.ntmps ops.toList s with
    | none => rw [hq] at h; simp at h
    | some p =>
      rw [hq] at h
      rw [aOps_le hc2 hq]
      obtain ⟨e,s1⟩:=p
      cases e with
      | normal =>
        simp only at h ⊢
        split at h
        · cases h
        · rename_i hn
          rw [if_neg]
          · exact h
          · intro hb
            apply hn
            cases draw with
            | false => simp at hb
            | true =>
              simp only [Bool.true_and,Bool.not_eq_true'] at hb ⊢
              cases hx:dynChk E d lvl fn.ntmps ops.toList s (fn.dyn id) with
              | false => rfl
              | true => rw [dynChk_le hd hx] at hb; cases hb
      | _ => exact h
  | .seq a b,s,r,h => by
    simp only [aCode] at h ⊢
    cases hq:aCode E c d k lvl fn a s with
    | none => rw [hq] at h; cases h
    | some p =>
      rw [hq] at h
      rw [aCode_le hc hd hk a hq]
      obtain ⟨e,s'⟩:=p
      cases e with
      | normal => exact aCode_le hc hd hk b h
      | _ => exact h
  | .cond x a b,s,r,h => by
    simp only [aCode] at h ⊢
    split at h
    · rename_i v hv
      split at h
      · rename_i e; rw [if_pos e]; exact aCode_le hc hd hk a h
      · rename_i e; rw [if_neg e]; exact aCode_le hc hd hk b h
    · cases h
  | .block id b,s,r,h => by
    simp only [aCode] at h ⊢
    cases hq:aCode E c d k lvl fn b s with
    | none => rw [hq] at h; cases h
    | some p => rw [hq] at h; rw [aCode_le hc hd hk b hq]; exact h
  | .loop b,s,r,h => by
    simp only [aCode] at h ⊢
    exact aLoop_le (fun s r => aCode_le hc hd hk b) hk h
  | .rangeFunc ..,s,r,h => h
  | .scope _,s,r,h => h
  | .label _,s,r,h => h
  | .goto _,s,r,h => h
  | .refuse _,s,r,h => h
theorem aCodes_le {E lvl fn} {c c' d d':CallF} {k k':Nat} (hc:CallLe c c') (hd:CallLe d d') (hk:k ≤ k'):∀ {l:List Code} {s r},aCodes E c d k lvl fn l s=some r → aCodes E c' d' k' lvl fn l s=some r
  | [],s,r,h => h
  | x :: l,s,r,h => by
    simp only [aCodes] at h ⊢
    cases hq:aCode E c d k lvl fn x s with
    | none => rw [hq] at h; cases h
    | some p =>
      rw [hq] at h
      rw [aCode_le hc hd hk x hq]
      obtain ⟨e,s'⟩:=p
      cases e with
      | normal => exact aCodes_le hc hd hk h
      | _ => exact h
def RunLe (r r':RunF):Prop:=∀ f a h x,r f a h=some x → r' f a h=some x
theorem some_le {α β:Type} {g:Option α → Option β} (h0:g none=none) {x y:Option α} (hxy:∀ r,x=some r → y=some r) {z} (h:g x=some z):g y=some z:=by
  cases x with
  | none => rw [h0] at h; cases h
  | some p => rw [hxy p rfl]; exact h
theorem sealed_le {r r':RunF} (hr:RunLe r r'):CallLe (sealed r) (sealed r'):=by
  intro s f a h x e
  unfold sealed at e ⊢
  cases hs:sealLW (sealA 20) h a with
  | none => rw [hs] at e; cases e
  | some q =>
    rw [hs] at e
    simp only at e ⊢
    split at e
    · rename_i hp; rw [if_pos hp]; exact some_le (g:=sealR q.2) rfl (fun z => hr f q.1 [] z) e
    · cases e
theorem lookR_le {h:Heap} {x y:Option (ARes × Heap)} (hxy:∀ r,x=some r → y=some r) {z} (e:lookR h x=some z):lookR h y=some z:=some_le (g:=lookR h) rfl hxy e
theorem dcall_le {r r':RunF} (hr:RunLe r r'):CallLe (dcall r) (dcall r'):=by
  intro s f a h x e
  unfold dcall at e ⊢
  split at e
  · rename_i hp; rw [if_pos hp]; exact sealed_le hr s f a h x e
  · rename_i hp
    rw [if_neg hp]
    split at e
    case h_2 => cases e
    split at e
    · rename_i hq; rw [if_pos hq]; exact lookR_le (fun z => sealed_le hr 0 f _ h z) e
    · cases e
theorem lendA_le {ks slot h1 args sr} {r r':List AV → Heap → Option (ARes × Heap)} (hr:∀ a h x,r a h=some x → r' a h=some x) {x} (e:lendA ks slot h1 args sr r=some x):lendA ks slot h1 args sr r'=some x:=by
  unfold lendA at e ⊢
  split at e
  · split at e
    · rename_i hp; rw [if_pos hp]; exact some_le (g:=backR ks slot h1 sr) rfl (fun z => hr _ _ z) e
    · cases e
  · cases e
theorem site_le {fn:AFn} {r r':RunF} (hr:RunLe r r'):CallLe (site fn r) (site fn r'):=by
  intro s f a h x e
  unfold site at e ⊢
  split at e
  · exact sealed_le hr s f a h x e
  · unfold opened at e ⊢
    split at e
    · exact lendA_le (hr f) e
    · cases e
theorem dfrA_le {E} {r r':RunF} (hr:RunLe r r') {n n' gd v cv h x} (hn:n ≤ n') (e:dfrA E r n gd v cv h=some x):dfrA E r' n' gd v cv h=some x:=by
  unfold dfrA at e ⊢
  refine lendA_le (fun a h z q => ?_) e
  split at q
  · rename_i hp
    rw [if_pos hp]
    split at q
    · rename_i hq; rw [aCodes_le (site_le hr) (dcall_le hr) hn hq]; exact q
    · rename_i hq; rw [aCodes_le (site_le hr) (dcall_le hr) hn hq]; exact q
    · cases q
  · cases q
theorem grdR_le {E} {r r':RunF} (hr:RunLe r r') {n n' fn gd cv} {x y:Option (AExit × St)} {z} (hn:n ≤ n') (hxy:∀ r,x=some r → y=some r) (e:grdR E r n fn gd cv x=some z):grdR E r' n' fn gd cv y=some z:=by
  cases x with
  | none => simp [grdR] at e
  | some p =>
    rw [hxy p rfl]
    obtain ⟨ex,s⟩:=p
    unfold grdR at e ⊢
    split at e
    · rename_i hq; cases hq; exact some_le (g:=grdE E fn s.t) rfl (fun z => dfrA_le hr hn) e
    · rename_i hq; cases hq; exact some_le (g:=grdE E fn s.t) rfl (fun z => dfrA_le hr hn) e
    · rename_i hq
      cases hq
      split at e
      · rename_i hp; rw [if_pos hp]; exact some_le (g:=grdE E fn s.t) rfl (fun z => dfrA_le hr hn) e
      · cases e
    · cases e
theorem grdP_le {E} {r r':RunF} (hr:RunLe r r') {n n' fn gd} {x y:Option (AExit × St)} {z} (hn:n ≤ n') (hxy:∀ r,x=some r → y=some r) (e:grdP E r n fn gd x=some z):grdP E r' n' fn gd y=some z:=by
  cases x with
  | none => simp [grdP] at e
  | some p =>
    rw [hxy p rfl]
    obtain ⟨ex,s⟩:=p
    unfold grdP at e ⊢
    split at e
    · rename_i hq
      cases hq
      split at e
      · split at e
        · split at e
          · rename_i hl
            rw [if_pos hl]
            exact grdR_le hr hn (fun r => aCodes_le (site_le hr) (dcall_le hr) hn) e
          · cases e
        · cases e
      · cases e
    · rename_i hq; cases hq; exact e
    · rename_i hq; cases hq; exact e
    · cases e
theorem aRun_le (E:Env):∀ n m,n ≤ m → RunLe (aRun E n) (aRun E m)
  | 0,m,_ => by intro f a h r e; simp [aRun] at e
  | n + 1,0,hm => by omega
  | n + 1,m + 1,hm => by
    intro f a h r e
    simp only [aRun] at e ⊢
    cases hp:E.prim f with
    | some p => rw [hp] at e; exact e
    | none =>
      rw [hp] at e
      simp only at e ⊢
      cases hf:E.fn f with
      | none => rw [hf] at e; cases e
      | some fn =>
        rw [hf] at e
        simp only at e ⊢
        split at e
        case isFalse => cases e
        rename_i hl
        rw [if_pos hl]
        have hr:=aRun_le E n m (by omega)
        cases hg:E.grd f with
        | none =>
          rw [hg] at e
          simp only at e ⊢
          exact some_le (g:=finA E fn) rfl (fun r => aCode_le (site_le hr) (dcall_le hr) (by omega) _) e
        | some gd =>
          rw [hg] at e
          simp only at e ⊢
          exact grdP_le hr (by omega) (fun r => aCodes_le (site_le hr) (dcall_le hr) (by omega)) e
theorem aCall_le (E:Env) (n m:Nat) (h:n ≤ m):CallLe (aCall E n) (aCall E m):=sealed_le (aRun_le E n m h)
abbrev Con (E:Env) (N:Nat) (f:FuncId) (args:List AV) (v:AV):Prop:=∀ k,N ≤ k → ∀ slot h,aCall E k slot f args h=some (.ret v,h)
theorem Con.of {E:Env} {N f args v g} (hp:AV.pureL args=true) (h:aCall E N 0 f args []=some (.ret v,g)):Con E N f args v:=by
  intro k hk slot h2
  obtain ⟨_,e⟩:=sealed_pure (aRun E N) 0 f args [] v g hp h
  exact aCall_le E N k hk _ _ _ _ _ (e h2)
theorem Con.mono {E:Env} {N M f args v} (h:Con E N f args v) (hm:N ≤ M):Con E M f args v:=fun k hk => h k (by omega)
abbrev Run (E:Env) (N:Nat) (f:FuncId) (args:List AV) (h:Heap) (r:ARes) (h':Heap):Prop:=∀ k,N ≤ k → aRun E k f args h=some (r,h')
theorem Run.of {E:Env} {N f args h r h'} (e:aRun E N f args h=some (r,h')):Run E N f args h r h':=fun k hk => aRun_le E N k hk _ _ _ _ e
theorem Run.mono {E:Env} {N M f args h r h'} (e:Run E N f args h r h') (hm:N ≤ M):Run E M f args h r h':=fun k hk => e k (by omega)
theorem Con.ofRun {E:Env} {N f args v v0 hf g} (hp:AV.pureL args=true) (h:Run E N f args [] (.ret v0) hf) (hs:sealA 20 hf v0=some (v,g)) (hv:v.pure=true):Con E N f args v:=by
  refine .of (g:=[]) hp ?_
  show sealed (aRun E N) 0 f args []=_
  unfold sealed
  rw [sealL_of_pure 19 args [] hp]
  simp only [hp,if_true,h N (Nat.le_refl _),sealR,hs,hv]
theorem site_none {fn:AFn} {run:RunF} (h:fn.opn=fun _ => none):site fn run=sealed run:=by
  funext s f a h'
  unfold site
  rw [h]
theorem aRun_fn {E:Env} {f fn args k h} (h1:E.prim f=none) (h2:E.fn f=some fn) (h3:E.grd f=none) (h4:args.length ≤ fn.ntmps) :
    aRun E (k + 1) f args h=finA E fn (aCode E (site fn (aRun E k)) (dcall (aRun E k)) k 1 fn fn.body ⟨frame0 args 0,h⟩):=by
  simp only [aRun,h1,h2,h3,h4,if_true]
theorem aCall_fn {E:Env} {f fn args k slot h} (h1:E.prim f=none) (h2:E.fn f=some fn) (h3:AV.pureL args=true) (h4:args.length ≤ fn.ntmps) (h5:E.grd f=none) (h6:fn.opn=fun _ => none) :
    aCall E (k + 1) slot f args h=sealR h (finA E fn (aCode E (aCall E k) (dcall (aRun E k)) k 1 fn fn.body ⟨frame0 args 0,[]⟩)):=by
  show sealed (aRun E (k + 1)) slot f args h=_
  unfold sealed
  rw [sealL_of_pure 19 args h h3]
  simp only [h3,if_true]
  rw [aRun_fn h1 h2 h5 h4,site_none h6]; rfl
theorem aCall_fnO {E:Env} {f fn args k slot h} (h1:E.prim f=none) (h2:E.fn f=some fn) (h3:AV.pureL args=true) (h4:args.length ≤ fn.ntmps) (h5:E.grd f=none) :
    aCall E (k + 1) slot f args h=sealR h (finA E fn (aCode E (site fn (aRun E k)) (dcall (aRun E k)) k 1 fn fn.body ⟨frame0 args 0,[]⟩)):=by
  show sealed (aRun E (k + 1)) slot f args h=_
  unfold sealed
  rw [sealL_of_pure 19 args h h3]
  simp only [h3,if_true]
  rw [aRun_fn h1 h2 h5 h4]
end Ab
/- The evaluator step by step, for simp. Own work, no conditions. -/
set_option linter.unusedVariables false
set_option linter.unusedSimpArgs false
namespace Ab
open Go
section
variable {E:Env} {call sc:CallF} {lvl n fuel:Nat} {fn:AFn}
def nxc (E:Env) (call:CallF) (lvl n:Nat) (d:Option Nat) (r:List Oper) (s:St):Option (ARes × Heap) → Option (AExit × St)
  | some (.ret v,h) => (putT n s.t d v).bind fun t => aOps E call lvl n r ⟨t,h⟩
  | some (.panic ch,h) => some (.panic ch,⟨s.t,h⟩)
  | none => none
def nx (E:Env) (call:CallF) (lvl n:Nat) (d:Option Nat) (r:List Oper) (s:St):Option OpR → Option (AExit × St)
  | some (.val v h) => (putT n s.t d v).bind fun t => aOps E call lvl n r ⟨t,h⟩
  | some (.skip h) => (putT n s.t d (.tup [])).bind fun t => aOps E call lvl n r ⟨t,h⟩
  | some (.panic v) => some (.panic [v],s)
  | some (.call f args) => nxc E call lvl n d r s (call (d.getD 0) f args s.h)
  | none => none
theorem s_nil {s}:aOps E call lvl n [] s=some (.normal,s):=rfl
theorem s_cons {d op ty p a r t h}:aOps E call lvl n (⟨d,op,ty,p,a,none⟩ :: r) ⟨t,h⟩=nx E call lvl n d r ⟨t,h⟩ (aOp E lvl t h ⟨d,op,ty,p,a,none⟩):=by
  simp only [aOps,wantedA]
  cases aOp E lvl t h ⟨d,op,ty,p,a,none⟩ with
  | none => rfl
  | some q => cases q <;> rfl
def gx (E:Env) (call:CallF) (lvl n:Nat) (d:Option Nat) (r:List Oper) (s:St) (x:Option OpR):Option Bool → Option (AExit × St)
  | some true => nx E call lvl n d r s x
  | some false => (putT n s.t d (.tup [])).bind fun t => aOps E call lvl n r ⟨t,s.h⟩
  | none => none
def wants (want:Bool):Option AV → Option Bool
  | some (.bool b) => some (b == want)
  | some _ => some false
  | none => none
theorem s_consG {d op ty p a r t h j w}:aOps E call lvl n (⟨d,op,ty,p,a,some (j,w)⟩ :: r) ⟨t,h⟩=gx E call lvl n d r ⟨t,h⟩ (aOp E lvl t h ⟨d,op,ty,p,a,none⟩) (wants w (lookT t j)):=by
  have e:aOp E lvl t h ⟨d,op,ty,p,a,some (j,w)⟩=aOp E lvl t h ⟨d,op,ty,p,a,none⟩:=rfl
  simp only [aOps,wantedA,e]
  cases lookT t j with
  | none => rfl
  | some v =>
    cases v with
    | bool b =>
      simp only [wants]
      cases b == w with
      | false => rfl
      | true =>
        simp only [gx]
        cases aOp E lvl t h ⟨d,op,ty,p,a,none⟩ with
        | none => rfl
        | some q => cases q <;> rfl
    | _ => rfl
theorem s_gt {d r s x}:gx E call lvl n d r s x (some true)=nx E call lvl n d r s x:=rfl
theorem s_gf {d r t h x}:gx E call lvl n (some d) r ⟨t,h⟩ x (some false)=if d < n then aOps E call lvl n r ⟨(d,.tup []) :: t,h⟩ else none:=by
  simp only [gx,putT]
  split <;> rfl
theorem s_wb {w b}:wants w (some (.bool b))=some (b == w):=rfl
theorem s_wu {w}:wants w (some (.tup []))=some false:=rfl
theorem s_val {d r t h0 v h}:nx E call lvl n (some d) r ⟨t,h0⟩ (some (.val v h))=if d < n then aOps E call lvl n r ⟨(d,v) :: t,h⟩ else none:=by
  simp only [nx,putT]
  split <;> rfl
theorem s_valN {r t h0 v h}:nx E call lvl n none r ⟨t,h0⟩ (some (.val v h))=aOps E call lvl n r ⟨t,h⟩:=rfl
theorem s_skip {r t h0 h}:nx E call lvl n none r ⟨t,h0⟩ (some (.skip h))=aOps E call lvl n r ⟨t,h⟩:=rfl
theorem s_ret {d r t h0 v h}:nxc E call lvl n (some d) r ⟨t,h0⟩ (some (.ret v,h))=if d < n then aOps E call lvl n r ⟨(d,v) :: t,h⟩ else none:=by
  simp only [nxc,putT]
  split <;> rfl
def rgx (lvl:Nat) (keep:Option (List Nat)) (draw:Bool):Option (AExit × St) → Option (AExit × St)
  | some (.normal,s') => some (.normal,cleanS lvl keep s')
  | r => if draw then none else r
theorem barOf_false {ps}:barOf false ps=none:=by
  unfold barOf
  split <;> simp
theorem s_reg {id ops s}:aCode E call sc fuel lvl fn (.region id ⟨ops⟩ false) s=rgx lvl (fn.keep id) false (aOps E call lvl fn.ntmps ops s):=by
  simp only [aCode,barOf_false,Bool.false_eq_true,if_false,Bool.false_and]
  cases aOps E call lvl fn.ntmps ops s with
  | none => rfl
  | some p => obtain ⟨e,s'⟩:=p; cases e <;> rfl
def rgy (b:Bool) (lvl:Nat) (keep:Option (List Nat)):Option (AExit × St) → Option (AExit × St)
  | some (.normal,s') => if b then some (.normal,cleanS lvl keep s') else none
  | _ => none
theorem s_regD {id ops s} (hb:barOf true (fn.dyn id)=none):aCode E call sc fuel lvl fn (.region id ⟨ops⟩ true) s=rgy (dynChk E sc lvl fn.ntmps ops s (fn.dyn id)) lvl (fn.keep id) (aOps E sc lvl fn.ntmps ops s):=by
  simp only [aCode,hb,if_true,Bool.true_and]
  cases aOps E sc lvl fn.ntmps ops s with
  | none => rfl
  | some p =>
    obtain ⟨e,s'⟩:=p
    cases e with
    | normal => simp only [rgy]; cases dynChk E sc lvl fn.ntmps ops s (fn.dyn id) <;> rfl
    | _ => rfl
theorem s_rgy {keep s}:rgy true lvl keep (some (.normal,s))=some (.normal,cleanS lvl keep s):=rfl
theorem s_dyn0 {ops s}:dynChk E call lvl n ops s []=true:=rfl
theorem s_regd {id ops s} (hd:fn.dyn=fun _ => []):aCode E call sc fuel lvl fn (.region id ⟨ops⟩ true) s=rgx lvl (fn.keep id) true (aOps E sc lvl fn.ntmps ops s):=by
  rw [s_regD (by rw [hd]; rfl),hd,s_dyn0]
  cases aOps E sc lvl fn.ntmps ops s with
  | none => rfl
  | some p => obtain ⟨e,s'⟩:=p; cases e <;> rfl
theorem s_rgp {keep ch s}:rgx lvl keep false (some (.panic ch,s))=some (.panic ch,s):=rfl
theorem s_pan {d r s v}:nx E call lvl n d r s (some (.panic v))=some (.panic [v],s):=rfl
theorem s_rgx {keep draw s}:rgx lvl keep draw (some (.normal,s))=some (.normal,cleanS lvl keep s):=rfl
def sqx (E:Env) (call sc:CallF) (fuel lvl:Nat) (fn:AFn) (b:Code):Option (AExit × St) → Option (AExit × St)
  | some (.normal,s') => aCode E call sc fuel lvl fn b s'
  | r => r
theorem s_seq {a b s}:aCode E call sc fuel lvl fn (.seq a b) s=sqx E call sc fuel lvl fn b (aCode E call sc fuel lvl fn a s):=by
  simp only [aCode]
  cases aCode E call sc fuel lvl fn a s with
  | none => rfl
  | some p => obtain ⟨e,s'⟩:=p; cases e <;> rfl
theorem s_sqn {b s}:sqx E call sc fuel lvl fn b (some (.normal,s))=aCode E call sc fuel lvl fn b s:=rfl
theorem s_sqr {b s}:sqx E call sc fuel lvl fn b (some (.ret,s))=some (.ret,s):=rfl
theorem s_sqp {b s ch}:sqx E call sc fuel lvl fn b (some (.panic ch,s))=some (.panic ch,s):=rfl
theorem s_sqe {b s i}:sqx E call sc fuel lvl fn b (some (.exit i,s))=some (.exit i,s):=rfl
def cdx (E:Env) (call sc:CallF) (fuel lvl:Nat) (fn:AFn) (a b:Code) (s:St):Option AV → Option (AExit × St)
  | some (.bool r) => if r then aCode E call sc fuel lvl fn a s else aCode E call sc fuel lvl fn b s
  | _ => none
theorem s_cond {c a b t h}:aCode E call sc fuel lvl fn (.cond c a b) ⟨t,h⟩=cdx E call sc fuel lvl fn a b ⟨t,h⟩ (opd E t c):=by
  simp only [aCode]
  cases opd E t c with
  | none => rfl
  | some v => cases v <;> rfl
theorem s_cdb {a b s r}:cdx E call sc fuel lvl fn a b s (some (.bool r))=if r=true then aCode E call sc fuel lvl fn a s else aCode E call sc fuel lvl fn b s:=rfl
def bkx (id:Nat):Option (AExit × St) → Option (AExit × St)
  | some (.exit id',s') => if id'=id then some (.normal,s') else some (.exit id',s')
  | r => r
theorem s_block {id b s}:aCode E call sc fuel lvl fn (.block id b) s=bkx id (aCode E call sc fuel lvl fn b s):=by
  simp only [aCode]
  cases aCode E call sc fuel lvl fn b s with
  | none => rfl
  | some p => obtain ⟨e,s'⟩:=p; cases e <;> rfl
theorem s_bkn {id s}:bkx id (some (.normal,s))=some (.normal,s):=rfl
theorem s_bkr {id s}:bkx id (some (.ret,s))=some (.ret,s):=rfl
theorem s_bkp {id ch s}:bkx id (some (.panic ch,s))=some (.panic ch,s):=rfl
theorem s_bke {id i s}:bkx id (some (.exit i,s))=if i=id then some (.normal,s) else some (.exit i,s):=rfl
theorem s_exit {id s}:aCode E call sc fuel lvl fn (.exit id) s=some (.exit id,s):=rfl
theorem s_ret' {s}:aCode E call sc fuel lvl fn .ret s=some (.ret,s):=rfl
theorem s_skip' {s}:aCode E call sc fuel lvl fn .skip s=some (.normal,s):=rfl
theorem s_loop {b s}:aCode E call sc fuel lvl fn (.loop b) s=aLoop (aCode E call sc fuel lvl fn b) (cleanS lvl ((firstReg b).bind fn.head)) fuel s:=rfl
def fin1 (h:Heap):Option (List AV) → Option (ARes × Heap)
  | some vs => some (.ret (results1 vs),h)
  | none => none
theorem s_finr {t h}:finA E fn (some (.ret,⟨t,h⟩))=fin1 h (resL E t h fn.results):=rfl
theorem s_finn {t h}:finA E fn (some (.normal,⟨t,h⟩))=fin1 h (resL E t h fn.results):=rfl
theorem s_finp {s ch}:finA E fn (some (.panic ch,s))=some (.panic ch,s.h):=rfl
theorem s_fin1 {h vs}:fin1 h (some vs)=some (.ret (results1 vs),h):=rfl
theorem s_fix {h1 h v}:sealR h1 (some (.ret v,h))=match sealA 20 h v with
      | some (v',_) => if v'.pure then some (.ret v',h1) else none
      | none => none:=rfl
theorem s_fixp {h1 h ch}:sealR h1 (some (.panic ch,h))=if AV.pureL ch then some (.panic ch,h1) else none:=rfl
theorem s_clean {ks t h}:cleanS lvl (some ks) ⟨t,h⟩=⟨keepT t ks,gcH lvl (keepT t ks) h⟩:=rfl
theorem s_gc0 {t}:gcH lvl t []=[]:=rfl
def lpx (f:St → Option (AExit × St)) (cl:St → St) (k:Nat):Option (AExit × St) → Option (AExit × St)
  | some (.normal,s') => aLoop f cl k s'
  | r => r
theorem s_round {f:St → Option (AExit × St)} {cl k s}:aLoop f cl (k + 1) s=lpx f cl k (f (cl s)):=by
  simp only [aLoop]
  cases f (cl s) with
  | none => rfl
  | some p => obtain ⟨e,s'⟩:=p; cases e <;> rfl
theorem s_lpn {f:St → Option (AExit × St)} {cl k s}:lpx f cl k (some (.normal,s))=aLoop f cl k s:=rfl
theorem s_lpe {f:St → Option (AExit × St)} {cl k s i}:lpx f cl k (some (.exit i,s))=some (.exit i,s):=rfl
theorem s_lpp {f:St → Option (AExit × St)} {cl k s ch}:lpx f cl k (some (.panic ch,s))=some (.panic ch,s):=rfl
theorem s_lpr {f:St → Option (AExit × St)} {cl k s}:lpx f cl k (some (.ret,s))=some (.ret,s):=rfl
/-! operands -/
theorem o_tmp {t i}:opd E t (.tmp i)=lookT t i:=rfl
theorem o_int {t k i}:opd E t (.const (.int k i))=some (.int k i):=rfl
theorem o_bool {t b}:opd E t (.const (.bool b))=some (.bool b):=rfl
theorem o_nil {t}:opd E t (.const (.slice none 0 0))=some (.sl true [] (some 0)):=rfl
theorem o_str {t s}:opd E t (.const (.string s))=some (.str (s.data.toList.map fun b => (b.toNat:Int))):=rfl
theorem o_fn {t f}:opd E t (.func f)=some (.fn f [] []):=rfl
theorem o_nil' {t}:opd E t (.const (.pointer none))=some .nilp:=rfl
theorem l_hit {t i v}:lookT ((i,v) :: t) i=some v:=by simp [lookT]
theorem l_miss {t i j v} (h:i ≠ j):lookT ((i,v) :: t) j=lookT t j:=by simp [lookT,h]
theorem l_nil {i}:lookT [] i=none:=rfl
theorem ol_nil {t}:opdL E t []=some []:=rfl
def olx (E:Env) (t:Fr) (r:List Operand):Option AV → Option (List AV)
  | some v => (opdL E t r).map (v :: ·)
  | none => none
theorem ol_cons {t x r}:opdL E t (x :: r)=olx E t r (opd E t x):=by
  simp only [opdL]
  cases opd E t x with
  | none => rfl
  | some v => cases h:opdL E t r <;> simp [olx,h]
theorem ol_some {t r v}:olx E t r (some v)=(opdL E t r).map (v :: ·):=rfl
/-! operations -/
variable {t:Fr} {h:Heap} {d:Option Nat} {ty:TypeId} {p:String} {a:Array Edge}
theorem x_move {x}:aOp E lvl t h ⟨d,.move x,ty,p,a,none⟩=(opd E t x).map fun v => .val v h:=rfl
theorem x_assign {x}:aOp E lvl t h ⟨d,.assign x,ty,p,a,none⟩=(opd E t x).map fun v => .val v h:=rfl
def pkx (E:Env) (t:Fr) (h:Heap) (x y:Operand):Option AV → Option OpR
  | some (.bool r) => (opd E t (if r=true then x else y)).map fun v => .val v h
  | _ => none
theorem x_pick {c x y}:aOp E lvl t h ⟨d,.pick c x y,ty,p,a,none⟩=pkx E t h x y (opd E t c):=by
  simp only [aOp]
  cases opd E t c with
  | none => rfl
  | some v => cases v <;> rfl
theorem pk_t {x y}:pkx E t h x y (some (.bool true))=(opd E t x).map fun v => .val v h:=rfl
theorem pk_f {x y}:pkx E t h x y (some (.bool false))=(opd E t y).map fun v => .val v h:=rfl
def bnx (E:Env) (op:BinOp) (ty:TypeId) (h:Heap):Option AV → Option AV → Option OpR
  | some a,some b => (binA E op ty a b).map fun v => .val v h
  | _,_ => none
theorem x_bin {op u x y u2}:aOp E lvl t h ⟨d,.binOp op u x y u2,ty,p,a,none⟩=bnx E op u h (opd E t x) (opd E t y):=by
  simp only [aOp]
  cases opd E t x with
  | none => rfl
  | some v => cases opd E t y <;> rfl
theorem bn_s {op u x y}:bnx E op u h (some x) (some y)=(binA E op u x y).map fun v => .val v h:=rfl
theorem x_un {op u x}:aOp E lvl t h ⟨d,.unOp op u x,ty,p,a,none⟩=(opd E t x).bind fun a => (unA op a).map fun v => .val v h:=by
  simp only [aOp]; cases opd E t x <;> rfl
def cvx (E:Env) (lvl:Nat) (h:Heap) (d:Option Nat) (src dst:TypeId) (a:AV):Option OpR :=
  match E.ty src,E.ty dst,a with
      | some _,some ⟨.slice e,_,_,_,_⟩,.str l =>
        match E.ty e with
        | some ⟨.int .u8,1,1,_,_⟩ =>
          let (h',k'):=newK h lvl (d.getD 0) (l.map (AV.int .u8)) false 1 false
          some (.val (.ref k' 0 l.length none) h')
        | _ => none
      | _,_,_ => (convA E src dst a h).map fun v => .val v h
theorem x_extract {x i}:aOp E lvl t h ⟨d,.extract x i,ty,p,a,none⟩=(opd E t x).bind fun | .tup vs => (vs[i]?).map fun v => .val v h | _ => none:=by
  simp only [aOp]; cases opd E t x with
  | none => rfl
  | some v => cases v <;> rfl
theorem x_callF {f args ts}:aOp E lvl t h ⟨d,.call ⟨.value (.func f),⟨args⟩,ts⟩,ty,p,a,none⟩=(opdL E t args).bind fun vs => callA E f vs h:=by
  simp only [aOp,opd]; cases opdL E t args <;> simp
theorem cl_no {f vs} (hx:E.ext f=false):callA E f vs h=some (.call f vs):=by unfold callA; rw [hx]; rfl
theorem x_callB {b args ts}:aOp E lvl t h ⟨d,.call ⟨.builtin b,⟨args⟩,⟨ts⟩⟩,ty,p,#[],none⟩=(opdL E t args).bind fun vs => builtinA E lvl (d.getD 0) h b ts vs:=by
  simp only [aOp]; cases opdL E t args <;> rfl
theorem x_callBF {b args ts}:aOp E lvl t h ⟨d,.call ⟨.builtin b,⟨args⟩,⟨ts⟩⟩,ty,p,fz,none⟩=(opdL E t args).bind fun vs => (builtinA E lvl (d.getD 0) h b ts vs).bind frzV:=by
  simp only [aOp]; cases opdL E t args <;> rfl
theorem x_conv {src dst x}:aOp E lvl t h ⟨d,.convert src dst x,ty,p,a,none⟩=(opd E t x).bind fun a => cvx E lvl h d src dst a:=by
  simp only [aOp]; cases opd E t x <;> rfl
theorem x_alloc {e}:aOp E lvl t h ⟨d,.alloc e,ty,p,a,none⟩=(E.ty e).map fun τ => .val (.ptr (newK h lvl (d.getD 0) τ.zero true 1 false).2 0) (newK h lvl (d.getD 0) τ.zero true 1 false).1:=by
  simp only [aOp]; cases E.ty e <;> rfl
def bxx (lvl:Nat) (h:Heap) (d:Option Nat):Option TyI → Option AV → Option OpR
  | some τ,some a => if a.cells.all AV.scal then some (.val (.ptr (newK h lvl (d.getD 0) a.cells true 1 false).2 0) (newK h lvl (d.getD 0) a.cells true 1 false).1) else none
  | _,_ => none
theorem x_box {e x}:aOp E lvl t h ⟨d,.box e x,ty,p,a,none⟩=bxx lvl h d (E.ty e) (opd E t x):=by
  simp only [aOp]; cases E.ty e <;> cases opd E t x <;> rfl
def bdx (E:Env) (h:Heap) (is:List Nat):Option TyI → Option (List AV) → Option OpR
    | some ⟨.strct fs,_,_,zero,_⟩,some vs =>
      if fs.all (fun p => (E.ty p.2).isSome)=false then none else
      (fillA (fun i => match fs[i]? with
        | some (off,ft) => (E.ty ft).map fun τ => (off,τ.size)
        | none => none) zero (is.zip vs)).map fun cs => .val (.agg cs) h
    | some ⟨.arr _ e,_,_,zero,_⟩,some vs =>
      match E.ty e with
      | some τ => (fillA (fun i => some (i * τ.size,τ.size)) zero (is.zip vs)).map fun cs => .val (.agg cs) h
      | none => none
    | _,_ => none
theorem x_build {u parts}:aOp E lvl t h ⟨d,.build u ⟨parts⟩,ty,p,a,none⟩=bdx E h (parts.map (·.1)) (E.ty u) (opdL E t (parts.map (·.2))):=by
  simp only [aOp,bdx]
  cases E.ty u with
  | none => rfl
  | some τ =>
    obtain ⟨d,a1,a2,a3,a4⟩:=τ
    cases opdL E t (parts.map (·.2)) <;> cases d <;> rfl
def bsx (E:Env) (lvl:Nat) (h:Heap) (d:Option Nat) (len:Nat) (is:List Nat):Option TyI → Option (List AV) → Option OpR
    | some ⟨.slice e,_,_,_,_⟩,some vs =>
      match E.ty e with
      | some τ =>
        if len * τ.size ≤ 16777216 ∧ τ.zero.length=τ.size ∧ 0 < τ.size ∧ (τ.size=1 ∨ τ.d.isAgg=true) then
          match fillA (fun i => some (i * τ.size,τ.size)) ((List.replicate len τ.zero).flatten) (is.zip vs) with
          | some cs => some (.val (.ref (newK h lvl (d.getD 0) cs true τ.size τ.d.isAgg).2 0 len (some len)) (newK h lvl (d.getD 0) cs true τ.size τ.d.isAgg).1)
          | none => none
        else none
      | none => none
    | _,_ => none
theorem x_buildSlice {u len parts}:aOp E lvl t h ⟨d,.buildSlice u len ⟨parts⟩,ty,p,⟨[]⟩,none⟩=bsx E lvl h d len (parts.map (·.1)) (E.ty u) (opdL E t (parts.map (·.2))):=by
  simp only [aOp,bsx]
  cases E.ty u with
  | none => rfl
  | some τ =>
    obtain ⟨d,a1,a2,a3,a4⟩:=τ
    cases opdL E t (parts.map (·.2)) with
    | none => cases d <;> rfl
    | some vs =>
      cases d with
      | slice e =>
        dsimp only
        cases E.ty e with
        | none => rfl
        | some τ =>
          dsimp only
          split
          · cases fillA (fun i => some (i * τ.size,τ.size)) ((List.replicate len τ.zero).flatten) ((parts.map (·.1)).zip vs) with
            | none => rfl
            | some cs => dsimp only; rw [if_neg (by simp [frzO])]
          · rfl
      | _ => rfl
def bsf (E:Env) (lvl:Nat) (h:Heap) (d:Option Nat) (len:Nat) (is:List Nat):Option TyI → Option (List AV) → Option OpR
    | some ⟨.slice e,_,_,_,_⟩,some vs =>
      match E.ty e with
      | some τ =>
        if len * τ.size ≤ 16777216 ∧ τ.zero.length=τ.size ∧ 0 < τ.size ∧ (τ.size=1 ∨ τ.d.isAgg=true) then
          match fillA (fun i => some (i * τ.size,τ.size)) ((List.replicate len τ.zero).flatten) (is.zip vs) with
          | some cs =>
            if AV.pureL cs=true ∧ len * τ.size ≤ cs.length then some (.val (.sl false (chunk τ.d.isAgg τ.size len (cs.take (len * τ.size))) (some len)) (setK (newK h lvl (d.getD 0) cs true τ.size τ.d.isAgg).1 (newK h lvl (d.getD 0) cs true τ.size τ.d.isAgg).2 ⟨cs,true,false,true,τ.size,τ.d.isAgg⟩))
            else some (.val (.ref (newK h lvl (d.getD 0) cs true τ.size τ.d.isAgg).2 0 len (some len)) (newK h lvl (d.getD 0) cs true τ.size τ.d.isAgg).1)
          | none => none
        else none
      | none => none
    | _,_ => none
theorem x_buildSliceF {u len parts}:aOp E lvl t h ⟨d,.buildSlice u len ⟨parts⟩,ty,p,fz,none⟩=bsf E lvl h d len (parts.map (·.1)) (E.ty u) (opdL E t (parts.map (·.2))):=by
  simp only [aOp,bsf]
  cases E.ty u with
  | none => rfl
  | some τ =>
    obtain ⟨d,a1,a2,a3,a4⟩:=τ
    cases opdL E t (parts.map (·.2)) with
    | none => cases d <;> rfl
    | some vs =>
      cases d with
      | slice e =>
        dsimp only
        cases E.ty e with
        | none => rfl
        | some τ =>
          dsimp only
          split
          · cases fillA (fun i => some (i * τ.size,τ.size)) ((List.replicate len τ.zero).flatten) ((parts.map (·.1)).zip vs) with
            | none => rfl
            | some cs =>
              dsimp only
              by_cases hz:AV.pureL cs=true ∧ len * τ.size ≤ cs.length
              · rw [if_pos ⟨rfl,hz⟩,if_pos hz]
              · rw [if_neg (fun q => hz q.2),if_neg hz]
          · rfl
      | _ => rfl
def ldx (h:Heap):Option TyI → Option AV → Option OpR
  | some τ,some p => (readC h p τ.size).bind fun cs => (τ.mk1 cs).map fun v => .val v h
  | _,_ => none
theorem x_load {u x}:aOp E lvl t h ⟨d,.load u x,ty,p,a,none⟩=ldx h (E.ty u) (opd E t x):=by
  simp only [aOp,ldx]
  cases E.ty u with
  | none => rfl
  | some τ =>
    cases opd E t x with
    | none => rfl
    | some p => simp only [ldx]; cases readC h p τ.size <;> rfl
def stx (h:Heap):Option TyI → Option AV → Option AV → Option OpR
  | some τ,some (.ptr key off),some v => if v.cells.length=τ.size then (writeC h key off v.cells).map .skip else none
  | _,_,_ => none
theorem x_store {u x y}:aOp E lvl t h ⟨d,.store u x y,ty,p,a,none⟩=stx h (E.ty u) (opd E t x) (opd E t y):=by
  simp only [aOp,stx]
  cases E.ty u with
  | none => rfl
  | some τ =>
    cases opd E t x with
    | none => rfl
    | some p => cases opd E t y <;> cases p <;> rfl
def slx (E:Env) (h:Heap) (u:TypeId) (bl bh bm:Bool):Option AV → Option AV → Option AV → Option AV → Option OpR
  | some a,some l,some hh,some m => (sliceA E u a (if bl then some l else none) (if bh then some hh else none) (if bm then some m else none) h).map fun v => .val v h
  | _,_,_,_ => none
theorem x_slice {u x lo hi mx}:aOp E lvl t h ⟨d,.slice u x lo hi mx,ty,p,a,none⟩=slx E h u lo.isSome hi.isSome mx.isSome (opd E t x) ((lo.map (opd E t)).getD (some .nilp)) ((hi.map (opd E t)).getD (some .nilp)) ((mx.map (opd E t)).getD (some .nilp)):=by
  simp only [aOp]
  cases opd E t x with
  | none => rfl
  | some a1 =>
    cases lo <;> cases hi <;> cases mx <;> simp only [Option.map_none,Option.map_some,Option.getD_none,Option.getD_some,Option.isSome] <;>
      (repeat' (first | rfl | (split; rename_i e; simp only [slx, *])  | (cases h:opd E t _ <;> simp only [slx,h])))
theorem x_fieldAddr {u x f}:aOp E lvl t h ⟨d,.fieldAddr u x f,ty,p,a,none⟩=(opd E t x).bind fun a => (fieldAddrA E u a f).map fun v => .val v h:=by
  simp only [aOp]; cases opd E t x <;> rfl
theorem x_field {u x f}:aOp E lvl t h ⟨d,.field u x f,ty,p,a,none⟩=(opd E t x).bind fun a => (fieldA E u a f).map fun v => .val v h:=by
  simp only [aOp]; cases opd E t x <;> rfl
def ixx (E:Env) (h:Heap) (u:TypeId):Option AV → Option AV → Option OpR
  | some a,some b => (indexA E u a b).map fun v => .val v h
  | _,_ => none
theorem x_index {u x i}:aOp E lvl t h ⟨d,.index u x i,ty,p,a,none⟩=ixx E h u (opd E t x) (opd E t i):=by
  simp only [aOp]; cases opd E t x <;> cases opd E t i <;> rfl
def iax (E:Env) (h:Heap) (u:TypeId):Option AV → Option AV → Option OpR
  | some a,some b => (indexAddrA E u a b h).map fun v => .val v h
  | _,_ => none
theorem x_indexAddr {u x i}:aOp E lvl t h ⟨d,.indexAddr u x i,ty,p,a,none⟩=iax E h u (opd E t x) (opd E t i):=by
  simp only [aOp]; cases opd E t x <;> cases opd E t i <;> rfl
def msx (E:Env) (lvl:Nat) (h:Heap) (d:Option Nat):Option TyI → Option AV → Option AV → Option OpR
    | some ⟨.slice e,_,_,_,_⟩,some (.int .i64 l),some (.int .i64 c) =>
      match E.ty e with
      | some τ =>
        if 0 ≤ l ∧ l ≤ c ∧ c * τ.bytes ≤ 70368744177664 ∧ 0 < τ.bytes ∧ τ.zero.length=τ.size ∧ 0 < τ.size ∧ (τ.size=1 ∨ τ.d.isAgg=true) then
          some (.val (.ref (newK h lvl (d.getD 0) ((List.replicate c.toNat τ.zero).flatten) true τ.size τ.d.isAgg).2 0 l.toNat (some c.toNat)) (newK h lvl (d.getD 0) ((List.replicate c.toNat τ.zero).flatten) true τ.size τ.d.isAgg).1)
        else none
      | none => none
    | _,_,_ => none
theorem x_makeSlice {u l c}:aOp E lvl t h ⟨d,.makeSlice u l c,ty,p,⟨[]⟩,none⟩=msx E lvl h d (E.ty u) (opd E t l) (opd E t c):=by
  simp only [aOp]
  cases E.ty u with
  | none => rfl
  | some τ =>
    obtain ⟨dd,a1,a2,a3,a4⟩:=τ
    cases dd <;> rfl
def msf (E:Env) (lvl:Nat) (h:Heap) (d:Option Nat):Option TyI → Option AV → Option AV → Option OpR
    | some ⟨.slice e,_,_,_,_⟩,some (.int .i64 l),some (.int .i64 c) =>
      match E.ty e with
      | some τ =>
        if 0 ≤ l ∧ l ≤ c ∧ c * τ.bytes ≤ 70368744177664 ∧ 0 < τ.bytes ∧ τ.zero.length=τ.size ∧ 0 < τ.size ∧ (τ.size=1 ∨ τ.d.isAgg=true) then
          if l=c ∧ AV.pureL ((List.replicate c.toNat τ.zero).flatten)=true then
            some (.val (.sl false (chunk τ.d.isAgg τ.size c.toNat (((List.replicate c.toNat τ.zero).flatten).take (c.toNat * τ.size))) (some c.toNat)) (setK (newK h lvl (d.getD 0) ((List.replicate c.toNat τ.zero).flatten) true τ.size τ.d.isAgg).1 (newK h lvl (d.getD 0) ((List.replicate c.toNat τ.zero).flatten) true τ.size τ.d.isAgg).2 ⟨(List.replicate c.toNat τ.zero).flatten,true,false,true,τ.size,τ.d.isAgg⟩))
          else
          some (.val (.ref (newK h lvl (d.getD 0) ((List.replicate c.toNat τ.zero).flatten) true τ.size τ.d.isAgg).2 0 l.toNat (some c.toNat)) (newK h lvl (d.getD 0) ((List.replicate c.toNat τ.zero).flatten) true τ.size τ.d.isAgg).1)
        else none
      | none => none
    | _,_,_ => none
theorem x_makeSliceF {u l c}:aOp E lvl t h ⟨d,.makeSlice u l c,ty,p,fz,none⟩=msf E lvl h d (E.ty u) (opd E t l) (opd E t c):=by
  simp only [aOp]
  cases E.ty u with
  | none => rfl
  | some τ =>
    obtain ⟨dd,a1,a2,a3,a4⟩:=τ
    cases dd <;> first | rfl | skip
    cases opd E t l with
    | none => rfl
    | some x =>
      cases opd E t c with
      | none => cases x <;> first | rfl | (rename_i k _; cases k <;> rfl)
      | some y =>
        cases x <;> first | rfl | skip
        rename_i k _
        cases k <;> first | rfl | skip
        cases y <;> first | rfl | skip
        rename_i k _
        cases k <;> first | rfl | skip
        simp only [msf]
        cases E.ty _ with
        | none => rfl
        | some τ =>
          simp only
          split
          · split
            · rename_i hz; rw [if_pos ⟨hz.2.1,hz.2.2⟩]
            · rename_i hz
              rw [if_neg (fun q => hz ⟨rfl,q⟩)]
          · rfl
theorem x_nilCheck {x}:aOp E lvl t h ⟨d,.nilCheck x,ty,p,a,none⟩=match opd E t x with
    | some (.ptr a b) => some (.val (.ptr a b) h)
    | some (.pel cs) => some (.val (.pel cs) h)
    | some (.fn f a b) => some (.val (.fn f a b) h)
    | _ => none:=rfl
theorem x_panic {x}:aOp E lvl t h ⟨d,.panic x,ty,p,a,none⟩=match opd E t x with
    | some (.iface ty v) => some (.panic (.iface ty v))
    | _ => none:=rfl
theorem x_tassert {x xt u}:aOp E lvl t h ⟨d,.typeAssert x xt u true,ty,p,a,none⟩=match E.ty u,opd E t x with
    | some ⟨.iface _,_,_,_,_⟩,_ => none
    | some _,some (.iface ty v) => if ty=u then some (.val (.tup [v,.bool true]) h) else none
    | _,_ => none:=rfl
theorem x_mkI {u x}:aOp E lvl t h ⟨d,.makeInterface u x,ty,p,a,none⟩=match E.ty u,opd E t x with
    | some ⟨.iface _,_,_,_,_⟩,_ => none
    | some _,some v => some (.val (.iface u v) h)
    | _,_ => none:=rfl
theorem x_mkF {f first cap}:aOp E lvl t h ⟨d,.makeFunc (.func f) ⟨first⟩ ⟨cap⟩,ty,p,a,none⟩=match opdL E t first,opdL E t cap with
    | some a,some b => some (.val (.fn f a b) h)
    | _,_ => none:=rfl
def clx (E:Env) (h:Heap) (args:List AV):Option AV → Option OpR
  | some (.fn g first cap) => callA E g (first ++ args ++ cap) h
  | _ => none
theorem x_callT {i args ts}:aOp E lvl t h ⟨d,.call ⟨.value (.tmp i),⟨args⟩,ts⟩,ty,p,a,none⟩=(opdL E t args).bind fun vs => clx E h vs (lookT t i):=by
  have h0:opd E t (.tmp i)=lookT t i:=rfl
  simp only [aOp,h0]
  cases opdL E t args with
  | none => rfl
  | some vs =>
    simp only [Option.bind_some]
    cases h1:lookT t i with
    | none => simp [clx,h0,h1]
    | some v => cases v <;> simp [clx,h0,h1]
end
end Ab
/- Calls and whole numbers, for simp. Own work, no conditions. -/
set_option linter.unusedVariables false
set_option linter.unusedSimpArgs false
namespace Ab
open Go
def cax (E:Env) (call:CallF) (k lvl n:Nat) (d:Option Nat) (r:List Oper) (s:St) (f:FuncId):Option (List AV × Heap) → Option (AExit × St)
  | some (args,h) => if AV.pureL args then nxc E call lvl n d r s (aCall E k 0 f args h) else none
  | none => none
section
variable {E:Env} {call:CallF} {lvl n k:Nat} {d:Option Nat} {r:List Oper} {t:Fr} {h:Heap} {f:FuncId} {args:List AV}
theorem sealed_cax {run:RunF}:sealed run (d.getD 0) f args h=match sealLW (sealA 20) h args with
    | some (args',h1) => if AV.pureL args' then sealed run 0 f args' h1 else none
    | none => none:=by
  unfold sealed
  cases hs:sealLW (sealA 20) h args with
  | none => rfl
  | some p =>
    obtain ⟨args',h1⟩:=p
    simp only
    by_cases hq:AV.pureL args'=true
    · simp only [hq,if_true]
      rw [sealL_of_pure 19 args' h1 hq]
      simp only [hq,if_true]
    · simp only [hq,if_false,Bool.false_eq_true]
theorem s_calls:nx E (aCall E k) lvl n d r ⟨t,h⟩ (some (.call f args))=cax E (aCall E k) k lvl n d r ⟨t,h⟩ f (sealLW (sealA 20) h args):=by
  show nxc E (aCall E k) lvl n d r ⟨t,h⟩ (aCall E k (d.getD 0) f args h)=_
  unfold aCall
  rw [sealed_cax]
  cases sealLW (sealA 20) h args with
  | none => rfl
  | some p =>
    obtain ⟨args',h1⟩:=p
    simp only [cax]
    split
    · rfl
    · rfl
theorem s_cax {args h1}:cax E call k lvl n d r ⟨t,h⟩ f (some (args,h1))=if AV.pureL args=true then nxc E call lvl n d r ⟨t,h⟩ (aCall E k 0 f args h1) else none:=rfl
theorem s_callP:nx E (dcall (aRun E k)) lvl n d r ⟨t,h⟩ (some (.call f args))=if AV.pureL args=true then nxc E (dcall (aRun E k)) lvl n d r ⟨t,h⟩ (aCall E k 0 f args h) else
    match sealLW (sealA 20) h args with
    | some (args',_) => if AV.pureL args'=true ∧ pureKs h (AV.keysL args)=true then nxc E (dcall (aRun E k)) lvl n d r ⟨t,h⟩ (lookR h (aCall E k 0 f args' h)) else none
    | none => none:=by
  have key:dcall (aRun E k) (d.getD 0) f args h=if AV.pureL args=true then aCall E k 0 f args h else
      match sealLW (sealA 20) h args with
      | some (args',_) => if AV.pureL args'=true ∧ pureKs h (AV.keysL args)=true then lookR h (aCall E k 0 f args' h) else none
      | none => none:=rfl
  show nxc E (dcall (aRun E k)) lvl n d r ⟨t,h⟩ (dcall (aRun E k) (d.getD 0) f args h)=_
  rw [key]
  split
  · rfl
  · cases sealLW (sealA 20) h args with
    | none => rfl
    | some p =>
      obtain ⟨args',h1⟩:=p
      simp only
      split
      · rfl
      · rfl
def stx' (E:Env) (fn:AFn) (k lvl n:Nat) (d:Option Nat) (r:List Oper) (s:St) (f:FuncId) (args:List AV):Option (List Bool × Bool) → Option (AExit × St)
  | none => cax E (site fn (aRun E k)) k lvl n d r s f (sealLW (sealA 20) s.h args)
  | some (m,sr) => nxc E (site fn (aRun E k)) lvl n d r s (opened m sr (aRun E k) (d.getD 0) f args s.h)
theorem s_site {fn:AFn}:nx E (site fn (aRun E k)) lvl n d r ⟨t,h⟩ (some (.call f args))=stx' E fn k lvl n d r ⟨t,h⟩ f args (fn.opn f):=by
  show nxc E (site fn (aRun E k)) lvl n d r ⟨t,h⟩ (site fn (aRun E k) (d.getD 0) f args h)=_
  unfold site
  cases ho:fn.opn f with
  | none =>
    simp only [stx']
    rw [sealed_cax]
    cases sealLW (sealA 20) h args with
    | none => rfl
    | some p =>
      obtain ⟨args',h1⟩:=p
      simp only [cax]
      split
      · rfl
      · rfl
  | some p => rfl
theorem s_stxN {fn:AFn} {s:St}:stx' E fn k lvl n d r s f args none=cax E (site fn (aRun E k)) k lvl n d r s f (sealLW (sealA 20) s.h args):=rfl
theorem s_stxO {fn:AFn} {s:St} {m sr}:stx' E fn k lvl n d r s f args (some (m,sr))=nxc E (site fn (aRun E k)) lvl n d r s (opened m sr (aRun E k) (d.getD 0) f args s.h):=rfl
theorem s_retp {ch}:nxc E call lvl n d r ⟨t,h⟩ (some (.panic ch,h))=some (.panic ch,⟨t,h⟩):=rfl
end
theorem w_u8 (n:Int):IntKind.u8.wrap n=n % 256:=by simp [IntKind.wrap,IntKind.signed,IntKind.bits]
theorem w_u32 (n:Int):IntKind.u32.wrap n=n % 4294967296:=by simp [IntKind.wrap,IntKind.signed,IntKind.bits]
theorem w_u64 (n:Int):IntKind.u64.wrap n=n % 18446744073709551616:=by simp [IntKind.wrap,IntKind.signed,IntKind.bits]
theorem w_i64 (n:Int) (h1:-9223372036854775808 ≤ n) (h2:n < 9223372036854775808):IntKind.i64.wrap n=n:=by
  simp only [IntKind.wrap,IntKind.signed,IntKind.bits]
  simp
  split <;> omega
theorem w_fdiv (n m:Int) (h:0 ≤ m):n.fdiv m=n / m:=Int.fdiv_eq_ediv_of_nonneg n h
theorem w_tdiv (n m:Int) (h:0 ≤ n):n.tdiv m=n / m:=Int.tdiv_eq_ediv_of_nonneg h
theorem w_tmod (n m:Int) (h:0 ≤ n):n.tmod m=n % m:=Int.tmod_eq_emod_of_nonneg h
end Ab
/- Rows of bytes. Own work, no conditions. -/
set_option linter.unusedVariables false
set_option linter.unusedSimpArgs false
namespace Ab
open Go
def bs (xs:List Int):List AV:=xs.map (.int .u8)
def isB (xs:List Int):Prop:=∀ x ∈ xs,0 ≤ x ∧ x < 256
theorem bs_nil:bs []=[]:=rfl
theorem bs_cons (x r):bs (x :: r)=.int .u8 x :: bs r:=rfl
theorem isB_nil:isB []:=fun x h => by cases h
theorem isB_cons {x r}:isB (x :: r) ↔ (0 ≤ x ∧ x < 256) ∧ isB r:=by simp [isB]
theorem bs_append (a b):bs (a ++ b)=bs a ++ bs b:=List.map_append ..
theorem bs_length (xs):(bs xs).length=xs.length:=List.length_map ..
theorem bs_cells:∀ xs,(bs xs).flatMap AV.cells=bs xs
  | [] => rfl
  | x :: r => by rw [bs_cons,List.flatMap_cons,bs_cells r]; rfl
theorem bs_scal:∀ xs,(bs xs).all AV.scal=true
  | [] => rfl
  | x :: r => by rw [bs_cons,List.all_cons,bs_scal r]; rfl
theorem bs_pure:∀ xs,AV.pureL (bs xs)=true
  | [] => rfl
  | x :: r => by rw [bs_cons,AV.pureL,bs_pure r]; rfl
theorem bs_go:∀ {xs},isB xs → convA.go (bs xs)=some xs
  | [],_ => rfl
  | x :: r,h => by
    obtain ⟨h1,h2⟩:=isB_cons.1 h
    rw [bs_cons,convA.go,if_pos h1,bs_go h2]; rfl
theorem bs_get (xs:List Int) (i:Nat):(bs xs)[i]? = (xs[i]?).map (.int .u8):=List.getElem?_map ..
theorem bs_all (xs:List Int):List.take xs.length (bs xs)=bs xs:=by rw [← bs_length xs]; exact List.take_length
end Ab
/- A law's call. Own work, no conditions. -/
set_option linter.unusedVariables false
set_option linter.unusedSimpArgs false
namespace Ab
open Go
theorem law_calls {P:Program} {E:Env} (O:EnvOK P E) (Fs:FnsOK P E) (hm:P.follows .mixedOrders=true) {n:Nat} {f:FuncId} {fn:AFn} (hf:E.fn f=some fn) (hgr:E.grd f=none) {args:List AV} {vals:List Value} {h:Heap} {w:World} (G:GOK E (cx0 w))
    (hrun:aCall E n 0 f args []=some (.ret (.bool true),h)) (hv:RVs (cx0 w) args vals) :
    Calls P f ⟨vals⟩ w fun e w' => e=.returned (.bool true) ∧ RowKit.Below w.heap.size w w':=by
  obtain ⟨g,vals',h1,h2⟩:=law_true O Fs hm G hrun hv
  obtain ⟨F,code,q1,q2,q3,q4,q5,q6⟩:=(Fs.fn f fn hf hgr).out
  rw [run_enter q1 (by rw [q2]; rfl) q6] at h1
  have e:=h1
  simp only [Result.ok.injEq,Next.enter.injEq,and_true] at e
  obtain ⟨rfl,rfl⟩:=e
  exact h2.mono fun e w' ⟨a,b,c,d,i,j⟩ => ⟨a,b,c,d,i,j⟩
end Ab
/- An argument that is a row of bytes. Own work, no conditions. -/
set_option linter.unusedVariables false
set_option linter.unusedSimpArgs false
namespace Ab
open Go
theorem bytes_cells:∀ xs:List Int,(xs.map (Value.int .u8)).flatMap (·.cells.toList)=xs.map (Value.int .u8)
  | [] => rfl
  | x :: r => by rw [List.map_cons,List.flatMap_cons,bytes_cells r]; rfl
theorem bytes_RVs (c:Cx):∀ xs:List Int,RVs c (bs xs) (xs.map (Value.int .u8))
  | [] => .nil
  | x :: r => .cons _ _ _ _ (.int _ _) (bytes_RVs c r)
end Ab
/- A row of bytes, handed over. Own work, no conditions. -/
set_option linter.unusedVariables false
set_option linter.unusedSimpArgs false
namespace Ab
open Go
theorem chunk_one:∀ (l:List AV),chunk false 1 l.length l=l
  | [] => rfl
  | x :: r => by
    simp only [List.length_cons,chunk,Bool.false_eq_true,if_false,List.head?_cons,Option.getD_some,List.drop_succ_cons,List.drop_zero]
    rw [chunk_one r]
theorem seal_bytes {n:Nat} {h:Heap} {key:Key} {off len:Nat} {cap:Option Nat} {o:AObj} {ys:List Int} (hk:lookK h key=some o) (hl:o.live=true) (he:o.esz=1) (ha:o.eagg=false) (hlen:off + len ≤ o.cells.length) (hc:(o.cells.drop off).take len=bs ys) :
    sealA (n + 2) h (.ref key off len cap)=some (.sl false (bs ys) cap,setK h key { o with mt:=false }):=by
  unfold sealA
  have hp:(AV.ref key off len cap).pure=false:=rfl
  simp only [hp,Bool.false_eq_true,if_false,hk,hl,he,Nat.mul_one,hlen,true_and,implies_true,if_true,hc]
  rw [sealL_of_pure n _ _ (bs_pure ys)]
  simp only [ha]
  have hlen2:len=(bs ys).length:=by
    rw [← hc,List.length_take,List.length_drop]; omega
  rw [hlen2,chunk_one]
end Ab
/- Small lemmas for evaluation with symbols. Own work, no conditions. -/
set_option linter.unusedVariables false
namespace Ab
open Go
theorem sc_int (k n):(AV.int k n).scal=true:=rfl
theorem sc_bool (b):(AV.bool b).scal=true:=rfl
theorem sc_str (l):(AV.str l).scal=true:=rfl
theorem sc_sl (f xs c):(AV.sl f xs c).scal=true:=rfl
theorem sc_ref (k o l c):(AV.ref k o l c).scal=true:=rfl
theorem sc_ptr (k o):(AV.ptr k o).scal=true:=rfl
theorem sc_pel (cs):(AV.pel cs).scal=true:=rfl
theorem sc_nilp:AV.nilp.scal=true:=rfl
theorem sc_fn (f a b):(AV.fn f a b).scal=true:=rfl
theorem sc_nilf:AV.nilf.scal=true:=rfl
theorem sc_if (t v):(AV.iface t v).scal=true:=rfl
theorem sc_nili:AV.nili.scal=true:=rfl
theorem sc_agg (cs):(AV.agg cs).scal=false:=rfl
theorem sc_tup (cs):(AV.tup cs).scal=false:=rfl
theorem sc_mem (xs:List Int):(∀ x ∈ bs xs,x.scal=true)=True:=by
  simp only [eq_iff_iff,iff_true]
  exact List.all_eq_true.1 (bs_scal xs)
theorem bs_kl (l):AV.keysL (bs l)=[]:=AV.keysL_pure _ (bs_pure l)
theorem bs_len (xs):(bs xs).length=xs.length:=List.length_map ..
theorem i_beq (a b:Int):(a == b)=decide (a=b):=by by_cases h:a=b <;> simp [h]
theorem i_bne (a b:Int):(a != b) = !decide (a=b):=by by_cases h:a=b <;> simp [h]
theorem nat_1 (n:Nat):1 + n=n + 1:=Nat.add_comm 1 n
def sealRow (h:Heap) (key:Key) (len:Nat) (cap:Option Nat):Option (AV × Heap) :=
  match lookK h key with
  | some o => if o.live=true ∧ o.esz=1 ∧ o.eagg=false ∧ o.cells.length=len ∧ AV.pureL o.cells=true then some (.sl false o.cells cap,setK h key ⟨o.cells,o.live,false,o.exact,o.esz,o.eagg⟩) else none
  | none => none
def sealX (n:Nat) (h:Heap) (v:AV):Option (AV × Heap):=sealA n h v
def sealY:Option (AV × Heap) → Nat → Heap → AV → Option (AV × Heap)
  | some r,_,_,_ => some r
  | none,n,h,v => sealX n h v
theorem sl_row (n:Nat) (h:Heap) (key:Key) (len:Nat) (cap:Option Nat):sealA (n + 2) h (.ref key 0 len cap)=sealY (sealRow h key len cap) (n + 2) h (.ref key 0 len cap):=by
  cases hr:sealRow h key len cap with
  | none => rfl
  | some r =>
    unfold sealRow at hr
    split at hr
    · rename_i o hk
      split at hr
      · rename_i hc
        obtain ⟨h1,h2,h3,h4,h5⟩:=hc
        cases hr
        simp only [sealY]
        unfold sealA
        have hp:(AV.ref key 0 len cap).pure=false:=rfl
        simp only [hp,Bool.false_eq_true,if_false,hk]
        rw [if_pos ⟨h1,by rw [h2]; omega,fun _ => h2⟩]
        simp only [h2,Nat.mul_one,List.drop_zero]
        rw [List.take_of_length_le (by omega),sealL_of_pure n _ _ h5]
        simp only [h3]
        rw [← h4,chunk_one]
      · cases hr
    · cases hr
theorem sl_pure (n:Nat) (h:Heap) (v:AV) (hp:v.pure=true):sealA (n + 1) h v=some (v,h):=by unfold sealA; rw [if_pos hp]
theorem sl_int (n h k x):sealA (n + 1) h (.int k x)=some (.int k x,h):=rfl
theorem sl_bool (n h b):sealA (n + 1) h (.bool b)=some (.bool b,h):=rfl
theorem sl_str (n h l):sealA (n + 1) h (.str l)=some (.str l,h):=rfl
theorem sl_sl (n h f xs c):sealA (n + 1) h (.sl f xs c)=some (.sl f xs c,h):=rfl
theorem sl_nilp (n h):sealA (n + 1) h .nilp=some (.nilp,h):=rfl
theorem sl_nilf (n h):sealA (n + 1) h .nilf=some (.nilf,h):=rfl
theorem sl_nili (n h):sealA (n + 1) h .nili=some (.nili,h):=rfl
theorem sl_pel (n h cs):sealA (n + 1) h (.pel cs)=some (.pel cs,h):=rfl
theorem sl_agg (n h cs):sealA (n + 1) h (.agg cs)=if AV.pureL cs then some (.agg cs,h) else match sealLW (sealA n) h cs with
    | some (l,h') => if l.all AV.scal then some (.agg l,h') else none
    | none => none:=by
  conv => lhs; unfold sealA
  rfl
theorem sl_tup (n h cs):sealA (n + 1) h (.tup cs)=if AV.pureL cs then some (.tup cs,h) else match sealLW (sealA n) h cs with
    | some (l,h') => some (.tup l,h')
    | none => none:=by
  conv => lhs; unfold sealA
  rfl
theorem sl_fn (n h f a b) (hp:(AV.fn f a b).pure=true):sealA (n + 1) h (.fn f a b)=some (.fn f a b,h):=sl_pure n h _ hp
theorem sl_if (n h t v) (hp:(AV.iface t v).pure=true):sealA (n + 1) h (.iface t v)=some (.iface t v,h):=sl_pure n h _ hp
end Ab
