/- The evaluator: own work, no conditions. -/
import Derived.Test.YtbiildmljbcmeaaDoorB18
import Derived.Recover
import Derived.Orders
/- Code and calls of the evaluator are the model's. Own work, no conditions. -/
set_option linter.unusedVariables false
set_option linter.unusedSimpArgs false
namespace Ab
open Go
def namesOf (o:Oper):List Tmp:=o.dst.toList ++ (o.op.operands.toList.filterMap fun | .tmp t => some t | _ => none)
def clsOf:Op → Nat
  | .move _ | .assign _ | .pick .. | .binOp .. | .unOp .. | .fieldAddr .. | .field .. | .index .. | .indexAddr .. | .extract .. | .nilCheck _ | .makeFunc .. | .makeInterface .. | .build .. => 0
  | .call { callee:=.builtin .len,.. } | .call { callee:=.builtin .cap,.. } | .call { callee:=.builtin .min,.. } | .call { callee:=.builtin .max,.. } => 0
  | .call { callee:=.value _,.. } => 1
  | .load .. | .slice .. => 1
  | .alloc _ | .box .. | .buildSlice .. | .makeSlice .. => 2
  | .convert .. => 4
  | _ => 3
def apart (a b:Oper):Bool :=
  (a.dst.all fun d => !(namesOf b).contains d) && (b.dst.all fun d => !(namesOf a).contains d) &&
  (clsOf a.op != 3 || clsOf b.op == 0 || clsOf b.op == 2) && (clsOf b.op != 3 || clsOf a.op == 0 || clsOf a.op == 2) &&
  (decide (clsOf a.op < 2) || decide (clsOf b.op < 2) || a.dst.getD 0 != b.dst.getD 0) &&
  (match b.guard with | some (d,_) => a.dst != some d | none => true) && (match a.guard with | some (d,_) => b.dst != some d | none => true)
def apartN (a b:Oper):Bool :=
  (a.dst.all fun d => !(namesOf b).contains d) && (b.dst.all fun d => !(namesOf a).contains d) &&
  (decide (clsOf a.op < 2) || decide (clsOf b.op < 2) || a.dst.getD 0 != b.dst.getD 0) &&
  (match b.guard with | some (d,_) => a.dst != some d | none => true) && (match a.guard with | some (d,_) => b.dst != some d | none => true)
def barOK (ops:Array Oper) (c:Nat):Bool :=
  let b:=Region.before ops
  decide (c < ops.size) && ((List.range c).all fun i => (b.getD c 0).testBit i) && (List.range ops.size).all fun j => decide (j ≤ c) || (b.getD j 0).testBit c
def drawOK (ops:Array Oper) (l:List Oper) (ps:List (Nat × Nat)):Bool :=
  let b:=Region.before ops
  (match barOf true ps with | some c => barOK ops c | none => true) &&
  (List.range ops.size).all fun j =>
    ((ops[j]?).map fun o => o.after.all fun e => !Region.binds .any e || decide (e.on < j)).getD false &&
    (List.range j).all fun i =>
      (b.getD j 0).testBit i || (match l[i]?,l[j]? with
        | some x,some y => apart x y || (apartN x y && ps.any fun p => p.1 == i && p.2 == j)
        | _,_ => false)
def zsOf (dyn:Nat → List (Nat × Nat)):List Nat:=(dyn 1000000).map (·.1)
def eraseC (dyn:Nat → List (Nat × Nat)):Code → Option Code
  | .skip => some .skip
  | .region id ops draw => match eraseL (zsOf dyn) ops ops.toList with
    | some l => if draw && !drawOK ops l (dyn id) then none else some (.region id l.toArray draw)
    | none => none
  | .seq a b => match eraseC dyn a,eraseC dyn b with
    | some x,some y => some (.seq x y)
    | _,_ => none
  | .cond c a b => match eraseC dyn a,eraseC dyn b with
    | some x,some y => some (.cond c x y)
    | _,_ => none
  | .block id b => (eraseC dyn b).map (.block id)
  | .loop b => (eraseC dyn b).map .loop
  | .exit id => some (.exit id)
  | .ret => some .ret
  | .rangeFunc .. => some (.refuse "")
  | .refuse _ => some (.refuse "")
  | _ => none
def CP (call:CallF):Prop:=∀ lvl f args h v h',call lvl f args h=some (.ret v,h') → h'=h ∧ ∀ h2,(∀ k ∈ AV.keysL args,lookK h2 k=lookK h k) → call lvl f args h2=some (.ret v,h2)
structure DrawSound (P:Program) (E:Env):Prop where
  plain:∀ (Ds:List Deferred) (call:CallF) (_:CallOK P E call) (_:CP call) (base L lvl n:Nat) (zs:List Nat) (ops:Array Oper) (l:List Oper) (ps:List (Nat × Nat)) (s:St) (s':St) (c:Cx) (a:Act) (id:Nat),
    eraseL zs ops ops.toList=some l → drawOK ops l ps=true → aOps E call lvl n l s=some (.normal,s') → dynChk E call lvl n l s ps=true → HR base c → base ≤ c.w.heap.size → GOK E c → c.h=s.h → FR c n s.t a.tmps → a.defers=Ds →
    (Code.region id ops true).wp P (Post Ds L base n c .normal s') a c.w
  bar:∀ (Ds:List Deferred) (call sc:CallF) (_:CallOK P E call) (_:CallOK P E sc) (_:CP sc) (base L lvl n:Nat) (zs:List Nat) (ops:Array Oper) (l:List Oper) (ps:List (Nat × Nat)) (k:Nat) (s:St) (s':St) (c:Cx) (a:Act) (id:Nat),
    eraseL zs ops ops.toList=some l → drawOK ops l ps=true → barOf true ps=some k → barX E call sc lvl n l k s=some (.normal,s') → HR base c → base ≤ c.w.heap.size → GOK E c → c.h=s.h → FR c n s.t a.tmps → a.defers=Ds →
    (Code.region id ops true).wp P (Post Ds L base n c .normal s') a c.w
theorem eraseL_get {zs:List Nat} {ops:Array Oper}:∀ {l:List Oper} {l':List Oper},eraseL zs ops l=some l' → l'.length=l.length ∧ ∀ i,i < l.length → ∃ o o',l[i]? = some o ∧ l'[i]? = some o' ∧ eraseOp zs ops o=some o'
  | [],l',h => by simp [eraseL] at h; subst h; simp
  | o :: r,l',h => by
    simp only [eraseL] at h
    split at h
    · rename_i x l e1 e2
      cases h
      obtain ⟨h1,h2⟩:=eraseL_get e2
      refine ⟨by simp [h1],fun i hi => ?_⟩
      cases i with
      | zero => exact ⟨o,x,rfl,rfl,e1⟩
      | succ i => simpa using h2 i (by simpa using hi)
    · cases h
theorem wp_loop_fuel {P:Program} {c:Code} {Q:Exit → Act → World → Prop} (I:Nat → Act → World → Prop)
    (round:∀ k a w,I k a w → c.wp P (Exit.then (fun a' w' => ∃ k',k' < k ∧ I k' a' w') Q) a w) (k:Nat) (a:Act) (w:World) (h:I k a w):(Code.loop c).wp P Q a w:=by
  intro b k0 cs
  have key:∀ n k a w,k=n → I k a w → ∃ e a' w',Q e a' w' ∧ Arrives P (lone (b.at a (.code c :: .inLoop c :: k0)) cs w) b k0 cs e a' w':=by
    intro n
    induction n using Nat.strongRecOn with
    | _ n ih =>
      intro k a w hn hI
      obtain ⟨e,a₁,w₁,hq,harr⟩:=round k a w hI b (.inLoop c :: k0) cs
      cases e with
      | normal =>
        obtain ⟨k',hlt,hI₁⟩:=hq
        obtain ⟨e₂,a₂,w₂,hq₂,harr₂⟩:=ih k' (hn ▸ hlt) k' a₁ w₁ rfl hI₁
        exact ⟨e₂,a₂,w₂,hq₂,.of_steps (Steps.trans harr (.one step_inLoop)) harr₂⟩
      | exit id => exact ⟨_,a₁,w₁,hq,.pass (x:=.inLoop c) rfl (fun _ _ => .inl (by simp)) harr⟩
      | goto l => exact ⟨_,a₁,w₁,hq,.pass (x:=.inLoop c) rfl (fun _ _ => .inl (by simp)) harr⟩
      | ret => exact ⟨_,a₁,w₁,hq,.pass (x:=.inLoop c) rfl (fun _ _ => .inl (by simp)) harr⟩
      | panic ch => exact ⟨_,a₁,w₁,hq,.pass (x:=.inLoop c) rfl (fun _ _ => .inl (by simp)) harr⟩
      | outgrown => exact ⟨_,a₁,w₁,hq,.pass (x:=.inLoop c) rfl (fun _ _ => .inl (by simp)) harr⟩
  obtain ⟨e,a',w',hq,harr⟩:=key k k a w rfl h
  exact ⟨e,a',w',hq,.of_steps (.one step_loop) harr⟩
theorem Post.seq {Ds L base n c c1 ex s' e a' w'} (X:ExtL L base c c1) (h:Post Ds L base n c1 ex s' e a' w'):Post Ds L base n c ex s' e a' w':=by
  obtain ⟨c2,q1,q2,q3,q4,q5⟩:=h
  exact ⟨c2,q1,q2,q3,X.trans q4,q5⟩
theorem aCode_sound {P E} (O:EnvOK P E) (D:DrawSound P E) {call sc:CallF} (C:CallOK P E call) (Cs:CallOK P E sc) (hCP:CP sc)
    {Ds:List Deferred} {base L lvl fuel:Nat} {fn:AFn} (hL:L=lvl):∀ (code code':Code),eraseC fn.dyn code=some code' → ∀ (s:St) ex s',aCode E call sc fuel lvl fn code' s=some (ex,s') → ∀ (c:Cx) (a:Act),HR base c → base ≤ c.w.heap.size → GOK E c → c.h=s.h → FR c fn.ntmps s.t a.tmps → a.defers=Ds →
    code.wp P (Post Ds L base fn.ntmps c ex s') a c.w
  | .skip,code',he,s,ex,s',h,c,a,H,hb,G,hh,F,hd => by
    simp only [eraseC,Option.some.injEq] at he; subst he
    simp only [aCode,Option.some.injEq,Prod.mk.injEq] at h
    obtain ⟨rfl,rfl⟩:=h
    exact wp_skip ⟨c,rfl,hh,H,.refl _ _ _,F,hd,rfl⟩
  | .ret,code',he,s,ex,s',h,c,a,H,hb,G,hh,F,hd => by
    simp only [eraseC,Option.some.injEq] at he; subst he
    simp only [aCode,Option.some.injEq,Prod.mk.injEq] at h
    obtain ⟨rfl,rfl⟩:=h
    exact wp_ret ⟨c,rfl,hh,H,.refl _ _ _,F,hd,rfl⟩
  | .exit id,code',he,s,ex,s',h,c,a,H,hb,G,hh,F,hd => by
    simp only [eraseC,Option.some.injEq] at he; subst he
    simp only [aCode,Option.some.injEq,Prod.mk.injEq] at h
    obtain ⟨rfl,rfl⟩:=h
    exact wp_exit ⟨c,rfl,hh,H,.refl _ _ _,F,hd,rfl⟩
  | .region id ops draw,code',he,s,ex,s',h,c,a,H,hb,G,hh,F,hd => by
    simp only [eraseC] at he
    split at he
    case h_2 => cases he
    rename_i l hl
    split at he
    case isTrue => cases he
    rename_i hdr
    simp only [Option.some.injEq] at he; subst he
    simp only [aCode] at h
    split at h
    · -- one operation parts it
      rename_i k hk
      have hdt:draw=true:=by
        cases draw with
        | true => rfl
        | false =>
          unfold barOf at hk
          split at hk
          · simp at hk
          · cases hk
      subst hdt
      cases hq:barX E call sc lvl fn.ntmps l.toArray.toList k s with
      | none => rw [hq] at h; simp [bindS] at h
      | some p =>
      obtain ⟨ex1,s1⟩:=p
      rw [hq] at h
      cases ex1 <;> simp only [bindS,reduceCtorEq,Option.some.injEq,Prod.mk.injEq] at h
      obtain ⟨rfl,rfl⟩:=h
      have hdo:drawOK ops l (fn.dyn id)=true:=by simpa using hdr
      refine wp_mono (D.bar Ds call sc C Cs hCP base L lvl fn.ntmps (zsOf fn.dyn) ops l (fn.dyn id) k s s1 c a id hl hdo hk (by simpa using hq) H hb G hh F hd) ?_
      rintro e a' w' ⟨c1,q1,q2,q3,q4,q5,q6,q7⟩
      obtain ⟨c2,r1,r2,r3,r4,r5,r6⟩:=clean_sound (L:=lvl) q3 (G.extL q4 H) q2 q5 (fn.keep id)
      subst hL
      exact ⟨c2,r1.trans q1,r2,r3,q4.trans r5,r6,q6,q7⟩
    rename_i hnb
    cases hr:aOps E (if draw=true then sc else call) lvl fn.ntmps l.toArray.toList s with
    | none => rw [hr] at h; simp at h
    | some p =>
      obtain ⟨ex1,s1⟩:=p
      rw [hr] at h
      simp only [List.toList_toArray] at hr
      -- how things stand behind the operations,then the cleaning
      have fin:∀ e a' w',Post Ds L base fn.ntmps c ex1 s1 e a' w' → Post Ds L base fn.ntmps c ex s' e a' w':=by
        rintro e a' w' ⟨c1,q1,q2,q3,q4,q5,q6,q7⟩
        cases ex1 with
        | normal =>
          simp only at h
          split at h
          · cases h
          simp only [Option.some.injEq,Prod.mk.injEq] at h
          obtain ⟨rfl,rfl⟩:=h
          obtain ⟨c2,r1,r2,r3,r4,r5,r6⟩:=clean_sound (L:=lvl) q3 (G.extL q4 H) q2 q5 (fn.keep id)
          subst hL
          exact ⟨c2,r1.trans q1,r2,r3,q4.trans r5,r6,q6,q7⟩
        | _ =>
          cases draw with
          | true => simp at h
          | false =>
            simp only [Bool.false_eq_true,if_false,Option.some.injEq,Prod.mk.injEq] at h
            obtain ⟨rfl,rfl⟩:=h
            exact ⟨c1,q1,q2,q3,q4,q5,q6,q7⟩
      refine wp_mono ?_ fin
      cases draw with
      | false =>
        simp only [Bool.false_eq_true,if_false] at hr
        refine wp_region ?_
        obtain ⟨g1,g2⟩:=eraseL_get hl
        exact aOps_sound O C (List.range ops.size) ops.toList l s ex1 s1 c c a (by
          apply List.ext_getElem?
          intro i
          rw [List.getElem?_map,List.getElem?_map]
          by_cases hi:i < ops.size
          · rw [List.getElem?_range hi]; simp [hi]
          · rw [List.getElem?_eq_none (by simpa using hi),List.getElem?_eq_none (by simpa using hi)]; rfl) g2 g1 hr H hb G hh F hd (.refl _ _ _)
      | true =>
        simp only [if_true] at hr
        have hdo:drawOK ops l (fn.dyn id)=true:=by simpa using hdr
        cases ex1 with
        | normal =>
          have hdy:dynChk E sc lvl fn.ntmps l s (fn.dyn id)=true:=by
            simp only [List.toList_toArray,Bool.true_and] at h
            cases hq:dynChk E sc lvl fn.ntmps l s (fn.dyn id) with
            | true => rfl
            | false => rw [hq] at h; simp at h
          exact D.plain Ds sc Cs hCP base L lvl fn.ntmps (zsOf fn.dyn) ops l (fn.dyn id) s s1 c a id hl hdo hr hdy H hb G hh F hd
        | _ =>
          cases draw_none:(true:Bool) with
          | true => simp at h
          | false => cases draw_none
  | .seq x y,code',he,s,ex,s',h,c,a,H,hb,G,hh,F,hd => by
    simp only [eraseC] at he
    split at he
    case h_2 => cases he
    rename_i x' y' ex' ey'
    simp only [Option.some.injEq] at he; subst he
    simp only [aCode] at h
    cases hr:aCode E call sc fuel lvl fn x' s with
    | none => rw [hr] at h; cases h
    | some p =>
      obtain ⟨ex1,s1⟩:=p
      rw [hr] at h
      refine wp_seq (wp_mono (aCode_sound O D C Cs hCP hL x x' ex' s ex1 s1 hr c a H hb G hh F hd) ?_)
      rintro e a' w' ⟨c1,rfl,q2,q3,q4,q5,q6,q7⟩
      cases ex1 with
      | normal =>
        obtain rfl:=q7
        simp only at h
        exact wp_mono (aCode_sound O D C Cs hCP hL y y' ey' s1 ex s' h c1 a' q3 (Nat.le_trans hb q4.size) (G.extL q4 H) q2 q5 q6) fun e a w hp => hp.seq q4
      | exit i =>
        simp only [Option.some.injEq,Prod.mk.injEq] at h
        obtain ⟨rfl,rfl⟩:=h
        obtain rfl:=q7
        exact ⟨c1,rfl,q2,q3,q4,q5,q6,rfl⟩
      | ret =>
        simp only [Option.some.injEq,Prod.mk.injEq] at h
        obtain ⟨rfl,rfl⟩:=h
        obtain rfl:=q7
        exact ⟨c1,rfl,q2,q3,q4,q5,q6,rfl⟩
      | panic ch =>
        simp only [Option.some.injEq,Prod.mk.injEq] at h
        obtain ⟨rfl,rfl⟩:=h
        obtain ⟨chain,rfl,q8⟩:=q7
        exact ⟨c1,rfl,q2,q3,q4,q5,q6,chain,rfl,q8⟩
  | .cond cc x y,code',he,s,ex,s',h,c,a,H,hb,G,hh,F,hd => by
    simp only [eraseC] at he
    split at he
    case h_2 => cases he
    rename_i x' y' ex' ey'
    simp only [Option.some.injEq] at he; subst he
    simp only [aCode] at h
    cases ho:opd E s.t cc with
    | none => rw [ho] at h; cases h
    | some v =>
      rw [ho] at h
      cases v <;> simp only [reduceCtorEq] at h
      rename_i r
      have hv:=opd_sound G F ho
      generalize hcv:a.eval cc=v at hv
      cases hv
      refine wp_cond hcv ?_
      cases r with
      | true => exact aCode_sound O D C Cs hCP hL x x' ex' s ex s' (by simpa using h) c a H hb G hh F hd
      | false => exact aCode_sound O D C Cs hCP hL y y' ey' s ex s' (by simpa using h) c a H hb G hh F hd
  | .block id b,code',he,s,ex,s',h,c,a,H,hb,G,hh,F,hd => by
    simp only [eraseC] at he
    obtain ⟨b',eb,rfl⟩:=map_some he
    simp only [aCode] at h
    cases hr:aCode E call sc fuel lvl fn b' s with
    | none => rw [hr] at h; cases h
    | some p =>
      obtain ⟨ex1,s1⟩:=p
      rw [hr] at h
      refine wp_block (wp_mono (aCode_sound O D C Cs hCP hL b b' eb s ex1 s1 hr c a H hb G hh F hd) ?_)
      rintro e a' w' ⟨c1,rfl,q2,q3,q4,q5,q6,q7⟩
      cases ex1 with
      | normal =>
        simp only [Option.some.injEq,Prod.mk.injEq] at h
        obtain ⟨rfl,rfl⟩:=h
        obtain rfl:=q7
        exact ⟨c1,rfl,q2,q3,q4,q5,q6,rfl⟩
      | exit i =>
        obtain rfl:=q7
        simp only [Exit.inBlock] at h ⊢
        split at h
        · rename_i e
          simp only [Option.some.injEq,Prod.mk.injEq] at h
          obtain ⟨rfl,rfl⟩:=h
          rw [if_pos e]
          exact ⟨c1,rfl,q2,q3,q4,q5,q6,rfl⟩
        · rename_i e
          simp only [Option.some.injEq,Prod.mk.injEq] at h
          obtain ⟨rfl,rfl⟩:=h
          rw [if_neg e]
          exact ⟨c1,rfl,q2,q3,q4,q5,q6,rfl⟩
      | ret =>
        simp only [Option.some.injEq,Prod.mk.injEq] at h
        obtain ⟨rfl,rfl⟩:=h
        obtain rfl:=q7
        exact ⟨c1,rfl,q2,q3,q4,q5,q6,rfl⟩
      | panic ch =>
        simp only [Option.some.injEq,Prod.mk.injEq] at h
        obtain ⟨rfl,rfl⟩:=h
        obtain ⟨chain,rfl,q8⟩:=q7
        exact ⟨c1,rfl,q2,q3,q4,q5,q6,chain,rfl,q8⟩
  | .loop b,code',he,s,ex,s',h,c,a,H,hb,G,hh,F,hd => by
    simp only [eraseC] at he
    obtain ⟨b',eb,rfl⟩:=map_some he
    simp only [aCode] at h
    let cl:=cleanS lvl ((firstReg b').bind fn.head)
    let I:Nat → Act → World → Prop:=fun k a' w' => ∃ s1 c1,aLoop (aCode E call sc fuel lvl fn b') cl k s1=some (ex,s') ∧ c1.w=w' ∧ c1.h=s1.h ∧ HR base c1 ∧ ExtL L base c c1 ∧ FR c1 fn.ntmps s1.t a'.tmps ∧ a'.defers=Ds
    refine wp_loop_fuel I ?_ fuel a c.w ⟨s,c,h,rfl,hh,H,.refl _ _ _,F,hd⟩
    rintro k a1 w1 ⟨s1,c1,hk,rfl,q2,q3,q4,q5,q6⟩
    cases k with
    | zero => simp [aLoop] at hk
    | succ k =>
      simp only [aLoop] at hk
      obtain ⟨c2,r1,r2,r3,r4,r5,r6⟩:=clean_sound (L:=lvl) q3 (G.extL q4 H) q2 q5 ((firstReg b').bind fn.head)
      cases hr:aCode E call sc fuel lvl fn b' (cl s1) with
      | none => rw [hr] at hk; cases hk
      | some p =>
        obtain ⟨ex1,s2⟩:=p
        rw [hr] at hk
        have X2:ExtL L base c c2:=q4.trans (by subst hL; exact r5)
        rw [← r1]
        refine wp_mono (aCode_sound O D C Cs hCP hL b b' eb (cl s1) ex1 s2 hr c2 a1 r3 (Nat.le_trans hb X2.size) r4 r2 r6 q6) ?_
        rintro e a' w' ⟨c3,rfl,t2,t3,t4,t5,t6,t7⟩
        cases ex1 with
        | normal =>
          obtain rfl:=t7
          exact ⟨k,Nat.lt_succ_self k,s2,c3,hk,rfl,t2,t3,X2.trans t4,t5,t6⟩
        | exit i =>
          simp only [Option.some.injEq,Prod.mk.injEq] at hk
          obtain ⟨rfl,rfl⟩:=hk
          obtain rfl:=t7
          exact ⟨c3,rfl,t2,t3,X2.trans t4,t5,t6,rfl⟩
        | ret =>
          simp only [Option.some.injEq,Prod.mk.injEq] at hk
          obtain ⟨rfl,rfl⟩:=hk
          obtain rfl:=t7
          exact ⟨c3,rfl,t2,t3,X2.trans t4,t5,t6,rfl⟩
        | panic ch =>
          simp only [Option.some.injEq,Prod.mk.injEq] at hk
          obtain ⟨rfl,rfl⟩:=hk
          obtain ⟨chain,rfl,q8⟩:=t7
          exact ⟨c3,rfl,t2,t3,X2.trans t4,t5,t6,chain,rfl,q8⟩
  | .rangeFunc ..,code',he,s,ex,s',h,_,_,_,_,_,_,_,_ => by simp only [eraseC,Option.some.injEq] at he; subst he; simp [aCode] at h
  | .scope _,code',he,_,_,_,_,_,_,_,_,_,_,_,_ => by simp [eraseC] at he
  | .label _,code',he,_,_,_,_,_,_,_,_,_,_,_,_ => by simp [eraseC] at he
  | .goto _,code',he,_,_,_,_,_,_,_,_,_,_,_,_ => by simp [eraseC] at he
  | .refuse _,code',he,s,ex,s',h,_,_,_,_,_,_,_,_ => by simp only [eraseC,Option.some.injEq] at he; subst he; simp [aCode] at h
end Ab
/- Calls of the evaluator: what is handed over, lent and given back. Own work, no conditions. -/
set_option linter.unusedVariables false
set_option linter.unusedSimpArgs false
namespace Ab
open Go
structure FnOK (P:Program) (f:FuncId) (fn:AFn):Prop where
  out:∃ F code,P.funcs[f]? = some F ∧ F.body=some code ∧ eraseC fn.dyn code=some fn.body ∧ F.ntmps=fn.ntmps ∧ F.results.toList=fn.results ∧ (F.name == "runtime.NumGoroutine")=false
structure PrimOK (P:Program) (E:Env) (f:FuncId) (p:List AV → Option AV):Prop where
  fn:∃ F,P.funcs[f]? = some F ∧ F.body.isNone=false ∧ (F.name == "runtime.NumGoroutine")=false
  call:∀ args v,p args=some v → AV.pureL args=true → v.pure=true → ∀ base c vals,HR base c → base ≤ c.w.heap.size → GOK E c → RVs c args vals →
    Calls P f ⟨vals⟩ c.w fun e w' => ∃ c',c'.w=w' ∧ c'.h=c.h ∧ HR base c' ∧ Ext base c c' ∧ ∃ val,e=.returned val ∧ RV c' v val
theorem run_enter {P:Program} {f:FuncId} {F:Func} {args:Array Value} {w:World} (h:P.funcs[f]? = some F) (hb:F.body.isNone=false) (hn:(F.name == "runtime.NumGoroutine")=false):(callFunc f args).run P w=.ok (.enter f args) w:=by
  have hn':¬ (F.name = "runtime.NumGoroutine"):=by simpa using hn
  have hb':¬ (F.body=none):=by intro e; rw [e] at hb; cases hb
  simp [callFunc,h,hn',hb']
theorem frame0_get:∀ (args:List AV) (k i:Nat) v,lookT (frame0 args k) i=some v → k ≤ i ∧ args[i - k]? = some v
  | [],k,i,v,h => by simp [frame0,lookT] at h
  | x :: r,k,i,v,h => by
    unfold frame0 at h
    rw [lookT_cons] at h
    split at h
    · rename_i e; subst e; cases h; simp
    · rename_i e
      obtain ⟨h1,h2⟩:=frame0_get r (k + 1) i v h
      refine ⟨by omega,?_⟩
      rw [show i - k=(i - (k + 1)) + 1 by omega]
      simpa using h2
theorem frame0_FR {c:Cx} {args:List AV} {vals:List Value} (h:RVs c args vals) {n:Nat} (hn:args.length ≤ n):FR c n (frame0 args 0) ((⟨vals⟩:Array Value) ++ Array.replicate (n - (⟨vals⟩:Array Value).size) undef):=by
  have hl:=h.length
  refine ⟨by simp; omega,fun i v hi => ?_⟩
  obtain ⟨_,h2⟩:=frame0_get args 0 i v hi
  obtain ⟨u,q1,q2⟩:=h.get (by simpa using h2)
  have hlt:=(List.getElem?_eq_some_iff.1 q1).1
  rw [Array.getD_eq_getD_getElem?,Array.getElem?_append_left (by simpa using hlt)]
  rw [show (⟨vals⟩:Array Value)[i]? = vals[i]? from by simp,q1]
  exact q2
def resS (tmps:Array Value):ResultVar → Sem Value
  | .tmp t => pure (tmps.getD t undef)
  | .cell a t => do loadVar t (← asAddr (tmps.getD a undef))
theorem resA_sound {P E} (O:EnvOK P E) {base c n t} {tmps:Array Value} (H:HR base c) (F:FR c n t tmps) {r v} (h:resA E t c.h r=some v) :
    Comp P c (resS tmps r) v:=by
  cases r with
  | tmp i => exact ⟨_,rfl,F.2 i v h⟩
  | cell a ty =>
    simp only [resA] at h
    split at h
    case h_2 => cases h
    rename_i p τ hp hτ
    cases hr:readC c.h p τ.size with
    | none => rw [hr] at h; cases h
    | some cs =>
      rw [hr] at h
      have hv:=F.2 a p hp
      obtain ⟨u,q1,q2⟩:=load_sound O H hτ hr h hv
      refine ⟨u,?_,q2⟩
      obtain ⟨b,off,vs,e,_⟩:=readC_sound H hr hv
      rw [e] at q1
      simp only [resS]
      rw [e]
      simpa [Instr.loadAt,Instr.sureAddr,asAddr] using q1
theorem resL_sound {P E} (O:EnvOK P E) {base c n t} {tmps:Array Value} (H:HR base c) (F:FR c n t tmps):∀ {rs:List ResultVar} {vs},resL E t c.h rs=some vs →
    ∃ us,(rs.mapM (resS tmps)).run P c.w=.ok us c.w ∧ RVs c vs us
  | [],vs,h => by simp [resL] at h; subst h; exact ⟨[],by simp,.nil⟩
  | r :: rs,vs,h => by
    simp only [resL] at h
    split at h
    · rename_i v l e1 e2
      cases h
      obtain ⟨u,q1,q2⟩:=resA_sound O H F e1
      obtain ⟨us,q3,q4⟩:=resL_sound O H F e2
      exact ⟨u :: us,by simp only [List.mapM_cons,Sem.run_bind,q1,Result.andThen_ok,q3,Sem.run_pure],.cons _ _ _ _ q2 q4⟩
    · cases h
theorem results_sound {P E} (O:EnvOK P E) {base c n t} {tmps:Array Value} (H:HR base c) (F:FR c n t tmps) {fn:Func} {vs} (h:resL E t c.h fn.results.toList=some vs) :
    Comp P c (results fn tmps) (results1 vs):=by
  obtain ⟨us,q1,q2⟩:=resL_sound O H F h
  have e:(results fn tmps).run P c.w=.ok (if h:us.toArray.size=1 then us.toArray[0] else .tuple us.toArray) c.w:=by
    unfold results
    simp only [Array.mapM_eq_mapM_toList,Sem.run_bind,Sem.run_map]
    have:∀ f g:ResultVar → Sem Value,(∀ r,f r=g r) → fn.results.toList.mapM f=fn.results.toList.mapM g:=fun f g h => by rw [show f=g from funext h]
    rw [this _ (resS tmps) (fun r => by cases r <;> rfl),q1]
    simp
  refine ⟨_,e,?_⟩
  cases q2 with
  | nil => exact .tup _ _ .nil
  | cons x v xs vs h1 h2 =>
    cases h2 with
    | nil => simpa [results1] using h1
    | cons y u ys us h3 h4 =>
      have:¬ ((v :: u :: us).toArray.size=1):=by simp
      rw [dif_neg this]
      exact .tup _ _ (.cons _ _ _ _ h1 (.cons _ _ _ _ h3 h4))
theorem sealed_pure (run:RunF):∀ lvl f args h v h',AV.pureL args=true → sealed run lvl f args h=some (.ret v,h') → h'=h ∧ ∀ h2,sealed run lvl f args h2=some (.ret v,h2):=by
  intro lvl f args h v h' hp e
  unfold sealed at e ⊢
  rw [sealL_of_pure 19 args h hp] at e
  simp only [hp,if_true] at e
  have key:∀ q,sealR h q=some (.ret v,h') → h'=h ∧ ∀ h2,sealR h2 q=some (.ret v,h2):=by
    intro q hq
    unfold sealR at hq ⊢
    split at hq
    · split at hq
      case h_2 => cases hq
      rename_i u _ hs
      split at hq
      case isFalse => cases hq
      rename_i hu
      cases hq
      exact ⟨rfl,fun h2 => by simp [hs,hu]⟩
    · split at hq <;> simp at hq
    · cases hq
  obtain ⟨k1,k2⟩:=key _ e
  refine ⟨k1,fun h2 => ?_⟩
  rw [sealL_of_pure 19 args h2 hp]
  simp only [hp,if_true]
  exact k2 h2
def SimK (K:List Key) (h h2:Heap):Prop:=∀ k ∈ K,∃ o o2,lookK h k=some o ∧ lookK h2 k=some o2 ∧ o2 = { o with mt:=o2.mt } ∧ AV.pureL o.cells=true
theorem sealL_pure_inv (n:Nat):∀ (l:List AV) (h:Heap) l' h',AV.pureL l=true → sealLW (sealA n) h l=some (l',h') → l'=l ∧ h'=h ∧ ∀ h2,sealLW (sealA n) h2 l=some (l,h2)
  | [],h,l',h',_,e => by simp [sealLW] at e; obtain ⟨rfl,rfl⟩:=e; exact ⟨rfl,rfl,fun _ => rfl⟩
  | x :: r,h,l',h',hp,e => by
    simp only [AV.pureL,Bool.and_eq_true] at hp
    cases n with
    | zero => simp [sealLW,sealA] at e
    | succ n =>
      have hpl:AV.pureL (x :: r)=true:=by simp [AV.pureL,hp.1,hp.2]
      rw [sealL_of_pure n _ _ hpl] at e
      cases e
      exact ⟨rfl,rfl,fun h2 => sealL_of_pure n _ _ hpl⟩
mutual
theorem sealA_sim {K:List Key}:∀ (n:Nat) (v:AV) (h h2:Heap) v' h',sealA n h v=some (v',h') → (∀ k ∈ v.keys,k ∈ K) → SimK K h h2 → ∃ h2',sealA n h2 v=some (v',h2') ∧ SimK K h' h2'
  | 0,v,h,h2,v',h',e,_,_ => by simp [sealA] at e
  | n + 1,v,h,h2,v',h',e,hk,S => by
    unfold sealA at e ⊢
    split at e
    · rename_i hp; rw [if_pos hp]; cases e; exact ⟨h2,rfl,S⟩
    · rename_i hp
      rw [if_neg hp]
      split at e
      · rename_i key off len cap
        obtain ⟨o,o2,e1,e2,e3,e4⟩:=S key (hk key (by simp [AV.keys]))
        rw [e1] at e
        simp only at e
        split at e
        case isFalse => cases e
        rename_i hc
        split at e
        case h_2 => cases e
        rename_i cs hh hs
        cases e
        have hpl:AV.pureL ((o.cells.drop off).take (len * o.esz))=true:=by
          rw [AV.pureL_all] at e4 ⊢
          exact fun x hx => e4 x (List.mem_of_mem_drop (List.mem_of_mem_take hx))
        obtain ⟨rfl,rfl,hall⟩:=sealL_pure_inv n _ _ _ _ hpl hs
        have c2:o2.cells=o.cells:=by rw [e3]
        have c3:o2.live=o.live:=by rw [e3]
        have c4:o2.esz=o.esz:=by rw [e3]
        have c5:o2.eagg=o.eagg:=by rw [e3]
        rw [e2]
        simp only [c2,c3,c4,c5]
        rw [if_pos hc,hall]
        refine ⟨_,rfl,?_⟩
        intro k hkk
        obtain ⟨p,p2,q1,q2,q3,q4⟩:=S k hkk
        rw [lookK_setK,lookK_setK]
        split
        · rename_i ek; subst ek
          rw [e1] at q1; cases q1
          rw [e2] at q2; cases q2
          refine ⟨_,_,rfl,rfl,?_,e4⟩
          rw [e3]
        · exact ⟨p,p2,q1,q2,q3,q4⟩
      · rename_i cs
        split at e
        case h_2 => cases e
        rename_i l hh hs
        split at e
        case isFalse => cases e
        rename_i hsc
        cases e
        obtain ⟨h2',a1,a2⟩:=sealL_sim n cs h h2 l _ hs (by simpa [AV.keys] using hk) S
        rw [a1]
        simp only
        rw [if_pos hsc]
        exact ⟨h2',rfl,a2⟩
      · rename_i cs
        split at e
        case h_2 => cases e
        rename_i l hh hs
        cases e
        obtain ⟨h2',a1,a2⟩:=sealL_sim n cs h h2 l _ hs (by simpa [AV.keys] using hk) S
        rw [a1]
        exact ⟨h2',rfl,a2⟩
      · cases e
theorem sealL_sim {K:List Key}:∀ (n:Nat) (l:List AV) (h h2:Heap) l' h',sealLW (sealA n) h l=some (l',h') → (∀ k ∈ AV.keysL l,k ∈ K) → SimK K h h2 → ∃ h2',sealLW (sealA n) h2 l=some (l',h2') ∧ SimK K h' h2'
  | n,[],h,h2,l',h',e,_,S => by simp [sealLW] at e; obtain ⟨rfl,rfl⟩:=e; exact ⟨h2,rfl,S⟩
  | n,x :: r,h,h2,l',h',e,hk,S => by
    simp only [sealLW] at e ⊢
    split at e
    case h_2 => cases e
    rename_i y h1 e1
    split at e
    case h_2 => cases e
    rename_i l2 hh2 e2
    cases e
    obtain ⟨g1,a1,a2⟩:=sealA_sim n x h h2 y h1 e1 (fun k hm => hk k (by simp [AV.keysL,hm])) S
    obtain ⟨g2,b1,b2⟩:=sealL_sim n r h1 g1 l2 _ e2 (fun k hm => hk k (by simp [AV.keysL,hm])) a2
    rw [a1]
    simp only
    rw [b1]
    exact ⟨g2,rfl,b2⟩
end
theorem pureKs_get {h:Heap}:∀ {l:List Key},pureKs h l=true → ∀ k ∈ l,∃ o,lookK h k=some o ∧ AV.pureL o.cells=true
  | [],_,k,hk => by cases hk
  | q :: r,hp,k,hk => by
    simp only [pureKs,Bool.and_eq_true] at hp
    rcases List.mem_cons.1 hk with rfl | hk
    · cases e:lookK h k with
      | none => rw [e] at hp; simp at hp
      | some o => rw [e] at hp; exact ⟨o,rfl,hp.1⟩
    · exact pureKs_get hp.2 k hk
theorem pureKs_agree {h h2:Heap}:∀ {l:List Key},(∀ k ∈ l,lookK h2 k=lookK h k) → pureKs h2 l=pureKs h l
  | [],_ => rfl
  | q :: r,ha => by
    simp only [pureKs,ha q (by simp),pureKs_agree (l:=r) fun k hk => ha k (by simp [hk])]
theorem lookR_some {h x v h'} (e:lookR h x=some (.ret v,h')):h'=h ∧ flatR v=true ∧ ∃ g,x=some (.ret v,g):=by
  unfold lookR at e
  split at e
  · split at e
    · rename_i hf; cases e; exact ⟨rfl,hf,_,rfl⟩
    · cases e
  · cases e
theorem dcall_cp (run:RunF):CP (dcall run):=by
  intro lvl f args h v h' e
  unfold dcall at e ⊢
  split at e
  · rename_i hp
    obtain ⟨k1,k2⟩:=sealed_pure run 0 f args h v h' hp e
    exact ⟨k1,fun h2 _ => by rw [if_pos hp]; exact k2 h2⟩
  · rename_i hp
    split at e
    case h_2 => cases e
    rename_i args' h1 hs
    split at e
    case isFalse => cases e
    rename_i hc
    obtain ⟨rfl,hf,g,hg⟩:=lookR_some e
    refine ⟨rfl,fun h2 ha => ?_⟩
    rw [if_neg hp]
    have S:SimK (AV.keysL args) h' h2:=fun k hk => by
      obtain ⟨o,o1,o2⟩:=pureKs_get hc.2 k hk
      exact ⟨o,o,o1,(ha k hk).trans o1,rfl,o2⟩
    obtain ⟨h2',a1,_⟩:=sealL_sim 20 args h' h2 args' h1 hs (fun k hk => hk) S
    rw [a1]
    simp only
    rw [if_pos ⟨hc.1,(pureKs_agree ha).trans hc.2⟩]
    obtain ⟨_,q⟩:=sealed_pure run 0 f args' h' v g hc.1 hg
    rw [q h2]
    simp [lookR,hf]
theorem RV.flat {c c':Cx} {x v} (h:RV c x v) (hf:flatV x=true):RV c' x v:=by
  cases h <;> first | (simp [flatV] at hf; done) | (constructor <;> assumption) | constructor
theorem RV.flatR {c c':Cx} {x v} (h:RV c x v) (hf:Ab.flatR x=true):RV c' x v:=by
  have lst:∀ {xs vs},RVs c xs vs → xs.all flatV=true → RVs c' xs vs:=by
    intro xs vs hx ha
    refine .of_get hx.length fun i y w hy hw => ?_
    obtain ⟨w2,q1,q2⟩:=hx.get hy
    rw [hw] at q1; cases q1
    exact q2.flat (List.all_eq_true.1 ha y (List.mem_of_getElem? hy))
  cases h with
  | agg cs vs h hs => exact .agg cs vs (lst h (by simpa [Ab.flatR] using hf)) hs
  | tup cs vs h => exact .tup cs vs (lst h (by simpa [Ab.flatR] using hf))
  | _ => exact RV.flat (c:=c) (by constructor <;> assumption) hf
/-! ### Other keys -/
mutual
theorem RV.rn {c c':Cx} {φ:Key → Key} (hR:∀ b,c.Rd b → c'.Rd b ∧ c'.w.heap[b]? = c.w.heap[b]?):∀ {x v},RV c x v → (∀ k ∈ x.keys,c.Vk k → c'.Vk (φ k) ∧ c'.m (φ k)=c.m k) → RV c' (x.rn φ) v
  | _,_,.int k n,_ => .int k n
  | _,_,.bool b,_ => .bool b
  | _,_,.str l s h,_ => .str l s h
  | _,_,.agg cs vs h hs,hk => .agg _ vs (RVs.rn hR h hk) (rnL_scal cs hs)
  | _,_,.tup cs vs h,hk => .tup _ vs (RVs.rn hR h hk)
  | _,_,.slE f a cap cap' h1 h2 h3,_ => .slE f a cap cap' h1 h2 h3
  | _,_,.slC xs vs b off esz cap cap' hne h hv hp hb hc hl hcap,_ =>
    .slC xs vs b off esz cap cap' hne (RVs.mono hR h (by rw [AV.keysL_pure xs ((AV.pureL_all xs).2 hp)]; simp)) hv hp (hR b hb).1
      (fun i cell hi => by have:=hc i cell hi; rw [← this]; exact World.cell?_of_block (hR b hb).2) hl hcap
  | _,_,.ref k off len cap cap' h1 h2 h3 h4,hk => by
    have:=hk k (by simp [AV.keys]) h1
    rw [show c.mu k=c'.mu (φ k) from (congrArg Prod.fst this.2).symm]
    exact .ref (φ k) off len cap cap' this.1 h2 h3 (by rw [this.2]; exact h4)
  | _,_,.ptr k off h1,hk => by
    have:=hk k (by simp [AV.keys]) h1
    rw [show c.mu k=c'.mu (φ k) from (congrArg Prod.fst this.2).symm]
    exact .ptr (φ k) off this.1
  | _,_,.pel cs vs b off h hs hp hb hc,_ =>
    .pel cs vs b off (RVs.mono hR h (by rw [AV.keysL_pure cs ((AV.pureL_all cs).2 hp)]; simp)) hs hp (hR b hb).1
      (fun i cell hi => by have:=hc i cell hi; rw [← this]; exact World.cell?_of_block (hR b hb).2)
  | _,_,.nilp,_ => .nilp
  | _,_,.fn f a b va vb h1 h2,hk => .fn f _ _ va vb (RVs.rn hR h1 fun k hm => hk k (by simp [AV.keys,hm])) (RVs.rn hR h2 fun k hm => hk k (by simp [AV.keys,hm]))
  | _,_,.nilf,_ => .nilf
  | _,_,.iface t x v h,hk => .iface t _ v (RV.rn hR h hk)
  | _,_,.nili,_ => .nili
theorem RVs.rn {c c':Cx} {φ:Key → Key} (hR:∀ b,c.Rd b → c'.Rd b ∧ c'.w.heap[b]? = c.w.heap[b]?):∀ {xs vs},RVs c xs vs → (∀ k ∈ AV.keysL xs,c.Vk k → c'.Vk (φ k) ∧ c'.m (φ k)=c.m k) → RVs c' (AV.rnL φ xs) vs
  | _,_,.nil,_ => .nil
  | _,_,.cons x v xs vs h1 h2,hk => .cons _ v _ vs (RV.rn hR h1 fun k hm => hk k (by simp [AV.keysL,hm])) (RVs.rn hR h2 fun k hm => hk k (by simp [AV.keysL,hm]))
theorem rnL_scal {φ:Key → Key}:∀ (xs:List AV),(∀ x ∈ xs,x.scal=true) → ∀ x ∈ AV.rnL φ xs,x.scal=true
  | [],_,x,hx => by simp [AV.rnL] at hx
  | y :: ys,h,x,hx => by
    simp only [AV.rnL,List.mem_cons] at hx
    rcases hx with rfl | hx
    · have:=h y (by simp)
      cases y <;> first | rfl | simp [AV.scal] at this
    · exact rnL_scal ys (fun z hz => h z (by simp [hz])) x hx
end
theorem rn_scal {φ:Key → Key} (x:AV):(x.rn φ).scal=x.scal:=by cases x <;> rfl
theorem rnL_length {φ:Key → Key}:∀ xs:List AV,(AV.rnL φ xs).length=xs.length
  | [] => rfl
  | _ :: xs => by simp [AV.rnL,rnL_length xs]
theorem rnL_get {φ:Key → Key}:∀ (xs:List AV) (i:Nat),(AV.rnL φ xs)[i]? = (xs[i]?).map (AV.rn φ)
  | [],i => by simp [AV.rnL]
  | x :: xs,0 => by simp [AV.rnL]
  | x :: xs,i + 1 => by simpa [AV.rnL] using rnL_get xs i
theorem mem_keysL_get {l:List AV} {i:Nat} {x:AV} (h:l[i]? = some x):∀ q ∈ x.keys,q ∈ AV.keysL l:=by
  induction l generalizing i with
  | nil => simp at h
  | cons y l ih =>
    intro q hq
    simp only [AV.keysL,List.mem_append]
    cases i with
    | zero => simp at h; subst h; exact .inl hq
    | succ i => exact .inr (ih (by simpa using h) q hq)
theorem inKs_mem {ks:List Key} {k:Key} (h:inKs ks k=true):k ∈ ks:=by
  unfold inKs at h
  rw [List.any_eq_true] at h
  obtain ⟨q,h1,h2⟩:=h
  have:q=k:=by simpa using h2
  exact this ▸ h1
theorem allKs_mem {all l:List Key} (h:l.all (inKs all)=true):∀ k ∈ l,k ∈ all:=fun k hk => inKs_mem (List.all_eq_true.1 h k hk)
theorem dd_nodup:∀ l:List Key,(dd l).Nodup
  | [] => .nil
  | k :: r => by
    unfold dd
    rw [List.nodup_cons]
    exact ⟨by simp,(dd_nodup r).filter _⟩
theorem posK_some:∀ {ks:List Key} {k:Key} {i},posK ks k=some i → ks[i]? = some k
  | [],k,i,h => by simp [posK] at h
  | q :: r,k,i,h => by
    unfold posK at h
    split at h
    · rename_i e; cases h; simp [e]
    · obtain ⟨j,h1,rfl⟩:=map_some h
      simpa using posK_some h1
theorem posK_mem:∀ {ks:List Key} {k:Key},k ∈ ks → ∃ i,posK ks k=some i
  | [],k,h => by cases h
  | q :: r,k,h => by
    unfold posK
    split
    · exact ⟨0,rfl⟩
    · rename_i e
      obtain ⟨i,hi⟩:=posK_mem (ks:=r) (k:=k) ((List.mem_cons.1 h).resolve_left fun x => e x.symm)
      exact ⟨i + 1,by rw [hi]; rfl⟩
theorem get_inj {l:List Key} (hn:l.Nodup) {i j:Nat} {k:Key} (h1:l[i]? = some k) (h2:l[j]? = some k):i=j:=by
  obtain ⟨a1,a2⟩:=List.getElem?_eq_some_iff.1 h1
  obtain ⟨b1,b2⟩:=List.getElem?_eq_some_iff.1 h2
  exact (List.getElem_inj hn).1 (a2.trans b2.symm)
theorem closedH_get {h:Heap} {all:List Key}:∀ {l:List Key},closedH h all l=true → ∀ k ∈ l,∃ o,lookK h k=some o ∧ ∀ q ∈ AV.keysL o.cells,q ∈ all
  | [],_,k,hk => by cases hk
  | x :: r,hc,k,hk => by
    simp only [closedH,Bool.and_eq_true] at hc
    rcases List.mem_cons.1 hk with rfl | hk
    · cases e:lookK h k with
      | none => rw [e] at hc; simp at hc
      | some o => rw [e] at hc; exact ⟨o,rfl,allKs_mem hc.1⟩
    · exact closedH_get hc.2 k hk
theorem lendH_get {h:Heap} {φ:Key → Key}:∀ {l:List Key} {hl},lendH h φ l=some hl → (∀ k ∈ l,∀ k' ∈ l,φ k=φ k' → k=k') →
    (∀ k ∈ l,∃ o,lookK h k=some o ∧ lookK hl (φ k)=some { o with cells:=AV.rnL φ o.cells }) ∧ (∀ q o,lookK hl q=some o → ∃ k ∈ l,q=φ k ∧ ∃ o',lookK h k=some o' ∧ o = { o' with cells:=AV.rnL φ o'.cells })
  | [],hl,e,_ => by
    simp [lendH] at e; subst e
    exact ⟨fun k hk => (by cases hk),fun q o hq => (by simp [lookK] at hq)⟩
  | k :: r,hl,e,hi => by
    simp only [lendH] at e
    split at e
    case h_2 => cases e
    rename_i o l e1 e2
    cases e
    obtain ⟨a1,a2⟩:=lendH_get e2 fun x hx y hy => hi x (by simp [hx]) y (by simp [hy])
    refine ⟨fun q hq => ?_,fun q o2 hq => ?_⟩
    · by_cases e:q=k
      · subst e; exact ⟨o,e1,by simp [lookK]⟩
      · obtain ⟨o2,b1,b2⟩:=a1 q ((List.mem_cons.1 hq).resolve_left e)
        refine ⟨o2,b1,?_⟩
        simp only [lookK]
        rw [if_neg fun x => e (hi q hq k (by simp) x.symm)]
        exact b2
    · simp only [lookK] at hq
      split at hq
      · rename_i e; cases hq; exact ⟨k,by simp,e.symm,o,e1,rfl⟩
      · obtain ⟨k',b1,b2⟩:=a2 q o2 hq
        exact ⟨k',by simp [b1],b2⟩
theorem putAll_in {h2:Heap} {ψ:Key → Key}:∀ {l:List Key} {h:Heap} {k:Key} {o},(∀ x ∈ l,ψ x=ψ k → x=k) → lookK h2 k=some o → (k ∈ l ∨ lookK h (ψ k)=some { o with cells:=AV.rnL ψ o.cells }) →
    lookK (putAll h2 ψ l h) (ψ k)=some { o with cells:=AV.rnL ψ o.cells }
  | [],h,k,o,_,_,hk => by
    rcases hk with hk | hk
    · cases hk
    · exact hk
  | x :: r,h,k,o,hi,ho,hk => by
    unfold putAll
    refine putAll_in (fun y hy => hi y (by simp [hy])) ho ?_
    by_cases e:x=k
    · subst e
      rw [ho]
      exact .inr (lookK_setK_same _ _ _)
    · have hne:ψ x ≠ ψ k:=fun h => e (hi x (by simp) h)
      rcases hk with hk | hk
      · exact .inl ((List.mem_cons.1 hk).resolve_left fun h => e h.symm)
      · right
        split
        · rw [lookK_setK_other _ _ _ _ hne]; exact hk
        · exact hk
theorem putAll_out {h2:Heap} {ψ:Key → Key}:∀ {l:List Key} {h:Heap} {q:Key},(∀ x ∈ l,ψ x ≠ q) → lookK (putAll h2 ψ l h) q=lookK h q
  | [],h,q,_ => rfl
  | x :: r,h,q,hn => by
    unfold putAll
    rw [putAll_out fun y hy => hn y (by simp [hy])]
    split
    · exact lookK_setK_other _ _ _ _ (hn x (by simp))
    · rfl
def lentC (c:Cx) (ks:List Key) (hl:Heap):Cx:=⟨c.w,c.Rd,fun k => c.m ((ks[k.2.2]?).getD k),hl⟩
theorem inK_of {ks:List Key} {k:Key} (h:k ∈ ks):∃ i,inK ks k=(0,0,i) ∧ ks[i]? = some k:=by
  obtain ⟨i,hi⟩:=posK_mem h
  exact ⟨i,by unfold inK; rw [hi],posK_some hi⟩
theorem inK_inj {ks:List Key}:∀ k ∈ ks,∀ k' ∈ ks,inK ks k=inK ks k' → k=k':=by
  intro k hk k' hk' e
  obtain ⟨i,h1,h2⟩:=inK_of hk
  obtain ⟨j,h3,h4⟩:=inK_of hk'
  rw [h1,h3] at e
  have:i=j:=by simpa using e
  subst this
  rw [h2] at h4; cases h4; rfl
theorem lend_in {base c ks hl} (H:HR base c) (e:lendH c.h (inK ks) ks=some hl) (hcl:closedH c.h ks ks=true) :
    HR base (lentC c ks hl) ∧ (∀ x v,RV c x v → (∀ k ∈ x.keys,k ∈ ks) → RV (lentC c ks hl) (x.rn (inK ks)) v) ∧ (∀ b,(lentC c ks hl).Mut b → c.Mut b) ∧
    (∀ k ∈ ks,(lentC c ks hl).Vk (inK ks k) ∧ (lentC c ks hl).m (inK ks k)=c.m k):=by
  obtain ⟨a1,a2⟩:=lendH_get e inK_inj
  have vk:∀ k ∈ ks,(lentC c ks hl).Vk (inK ks k) ∧ (lentC c ks hl).m (inK ks k)=c.m k:=by
    intro k hk
    obtain ⟨o,_,h2⟩:=a1 k hk
    refine ⟨⟨_,h2⟩,?_⟩
    obtain ⟨i,h3,h4⟩:=inK_of hk
    show c.m _=_
    rw [h3]
    show c.m ((ks[i]?).getD _)=_
    rw [h4]; rfl
  have mu:∀ k ∈ ks,(lentC c ks hl).mu (inK ks k)=c.mu k:=fun k hk => congrArg Prod.fst (vk k hk).2
  have rv:∀ x v,RV c x v → (∀ k ∈ x.keys,k ∈ ks) → RV (lentC c ks hl) (x.rn (inK ks)) v:=fun x v hx hk =>
    RV.rn (c:=c) (c':=lentC c ks hl) (φ:=inK ks) (fun b hb => ⟨hb,rfl⟩) hx fun k hk' _ => vk k (hk k hk')
  refine ⟨⟨?_,?_,?_,?_,H.rd⟩,rv,?_,vk⟩
  · intro q o hq hl'
    obtain ⟨k,hk,rfl,o',ho',rfl⟩:=a2 q o hq
    obtain ⟨arr,ty,fr,g1,g2,g3,g4,g4b,g5⟩:=H.obj k o' ho' hl'
    obtain ⟨o2,ho2,hcl2⟩:=closedH_get hcl k hk
    rw [ho'] at ho2; cases ho2
    refine ⟨arr,ty,fr,by rw [mu k hk]; exact g1,g2,by simpa [rnL_length] using g3,fun hx => by simpa [rnL_length] using g4 hx,fun hx => by rw [(vk k hk).2]; exact g4b hx,fun i x hx => ?_⟩
    rw [rnL_get] at hx
    obtain ⟨y,hy,rfl⟩:=map_some hx
    obtain ⟨v,q1,q2,q3⟩:=g5 i y hy
    exact ⟨v,q1,rv y v q2 fun q hq => hcl2 q (mem_keysL_get hy q hq),by rw [rn_scal]; exact q3⟩
  · intro q o hq hl' hm
    obtain ⟨k,hk,rfl,o',ho',rfl⟩:=a2 q o hq
    rw [mu k hk]
    exact H.mt k o' ho' hl' hm
  · intro q o hq hl' hm
    obtain ⟨k,hk,rfl,o',ho',rfl⟩:=a2 q o hq
    rw [mu k hk]
    exact H.sld k o' ho' hl' hm
  · intro q o q' o' hq hq' hl1 hl2 hm1 hm2 e
    obtain ⟨k,hk,rfl,ok,hok,rfl⟩:=a2 q o hq
    obtain ⟨k',hk',rfl,ok',hok',rfl⟩:=a2 q' o' hq'
    rw [mu k hk,mu k' hk'] at e
    rw [H.inj k ok k' ok' hok hok' hl1 hl2 hm1 hm2 e]
  · rintro b ⟨q,o,hq,hl',hm,rfl⟩
    obtain ⟨k,hk,rfl,o',ho',rfl⟩:=a2 q o hq
    exact ⟨k,o',ho',hl',hm,(mu k hk).symm⟩
theorem genOf_gt' {h:Heap} {l s g:Nat} {o:AObj} (h1:lookK h (l,s,g)=some o):g < genOf h l s:=genOf_gt h l s g o h1
theorem lend_out {base c ks hl c2 slot vs vals vs' h'} (H:HR base c) (hnd:ks.Nodup) (e:lendH c.h (inK ks) ks=some hl) (hcl:closedH c.h ks ks=true)
    (H2:HR base c2) (X:ExtL 1 base (lentC c ks hl) c2) (hv:RVs c2 vs vals) (hb:back ks slot c.h c2.h vs=some (vs',h')) :
    ∃ c',c'.w=c2.w ∧ c'.h=h' ∧ HR base c' ∧ Ext base c c' ∧ RVs c' vs' vals ∧ (∀ b,c2.Rd b → c'.Rd b):=by
  obtain ⟨L1,L2,L3,L4⟩:=lend_in H e hcl
  unfold back at hb
  generalize hall:dd (reach c2.h 3 (lentKs ks.length ++ AV.keysL vs))=all at hb
  have hand:all.Nodup:=by rw [← hall]; exact dd_nodup _
  unfold backA at hb
  split at hb
  case isFalse => cases hb
  rename_i hcnd
  obtain ⟨k1,k2,k3,k4⟩:=hcnd
  generalize hns:all.filter (fun k => !decide (k.1=0))=ns at hb
  generalize hG:genOf c.h 1 slot=G at hb
  simp only [Option.some.injEq,Prod.mk.injEq] at hb
  obtain ⟨rfl,rfl⟩:=hb
  generalize hψ:outK ks ns slot G=ψ
  -- the keys among them
  have cl:=fun k hk => closedH_get (l:=all) k1 k hk
  have lent:∀ k ∈ all,k.1=0 → ∃ i q,k=(0,0,i) ∧ ks[i]? = some q ∧ ψ k=q:=by
    intro k hk h0
    have:=List.all_eq_true.1 k2 k hk
    unfold okK at this
    rw [if_pos h0] at this
    have hh:=of_decide_eq_true this
    obtain ⟨a,b,i⟩:=k
    simp only at h0 hh
    obtain ⟨rfl,hi⟩:=hh
    subst h0
    refine ⟨i,ks[i],rfl,by simp [hi],?_⟩
    rw [← hψ]
    unfold outK
    simp [hi]
  have imp:∀ k ∈ all,k.1 ≠ 0 → ∃ j,posK ns k=some j ∧ ψ k=(1,slot,G + j):=by
    intro k hk h0
    have hmem:k ∈ ns:=by rw [← hns,List.mem_filter]; exact ⟨hk,by simpa using h0⟩
    obtain ⟨j,hj⟩:=posK_mem hmem
    refine ⟨j,hj,?_⟩
    rw [← hψ]
    unfold outK
    rw [if_neg h0,hj]
  have ksIn:∀ q ∈ ks,∃ o,lookK c.h q=some o:=fun q hq => by
    obtain ⟨o,h1,_⟩:=closedH_get hcl q hq
    exact ⟨o,h1⟩
  have fresh:∀ j o,lookK c.h (1,slot,G + j)=some o → False:=fun j o h => by
    have:=genOf_gt' h
    omega
  have inj:∀ x ∈ all,∀ y ∈ all,ψ x=ψ y → x=y:=by
    intro x hx y hy hxy
    by_cases x0:x.1=0
    · obtain ⟨i,q,rfl,hi,hq⟩:=lent x hx x0
      by_cases y0:y.1=0
      · obtain ⟨j,q',rfl,hj,hq'⟩:=lent y hy y0
        rw [hq,hq'] at hxy
        subst hxy
        rw [get_inj hnd hi hj]
      · obtain ⟨j,_,hq'⟩:=imp y hy y0
        rw [hq,hq'] at hxy
        obtain ⟨o,ho⟩:=ksIn q (List.mem_of_getElem? hi)
        rw [hxy] at ho
        exact (fresh j o ho).elim
    · obtain ⟨i,hi,hq⟩:=imp x hx x0
      by_cases y0:y.1=0
      · obtain ⟨j,q',rfl,hj,hq'⟩:=lent y hy y0
        rw [hq,hq'] at hxy
        obtain ⟨o,ho⟩:=ksIn q' (List.mem_of_getElem? hj)
        rw [← hxy] at ho
        exact (fresh i o ho).elim
      · obtain ⟨j,hj,hq'⟩:=imp y hy y0
        rw [hq,hq'] at hxy
        have:i=j:=by simpa using hxy
        subst this
        have e1:=posK_some hi
        have e2:=posK_some hj
        rw [e1] at e2; cases e2; rfl
  have look:∀ k ∈ all,∀ o,lookK c2.h k=some o → lookK (putAll c2.h ψ all c.h) (ψ k)=some { o with cells:=AV.rnL ψ o.cells }:=fun k hk o ho =>
    putAll_in (fun x hx => inj x hx k hk) ho (.inl hk)
  have other:∀ q,(∀ k ∈ all,ψ k ≠ q) → lookK (putAll c2.h ψ all c.h) q=lookK c.h q:=fun q hq => putAll_out hq
  -- the blocks behind the keys
  let m':Key → Nat × Nat:=fun q => match all.find? (fun k => !decide (k.1=0) && decide (ψ k=q)) with
    | some k => c2.m k
    | none => c.m q
  have mOld:∀ q o,lookK c.h q=some o → m' q=c.m q:=by
    intro q o ho
    show (match all.find? _ with | some k => c2.m k | none => c.m q)=_
    cases hf:all.find? (fun k => !decide (k.1=0) && decide (ψ k=q)) with
    | none => rfl
    | some k =>
      exfalso
      have h1:=List.find?_some hf
      have h2:=List.mem_of_find?_eq_some hf
      simp only [Bool.and_eq_true,Bool.not_eq_true',decide_eq_false_iff_not,decide_eq_true_eq] at h1
      obtain ⟨j,_,hj⟩:=imp k h2 h1.1
      rw [h1.2] at hj
      rw [hj] at ho
      exact fresh j o ho
  have mNew:∀ k ∈ all,m' (ψ k)=c2.m k:=by
    intro k hk
    by_cases h0:k.1=0
    · obtain ⟨i,q,rfl,hi,hq⟩:=lent k hk h0
      have hqk:=List.mem_of_getElem? hi
      obtain ⟨o,ho⟩:=ksIn q hqk
      rw [hq,mOld q o ho]
      obtain ⟨v1,v2⟩:=L4 q hqk
      obtain ⟨i',h3,h4⟩:=inK_of hqk
      have:i'=i:=get_inj hnd h4 hi
      subst this
      rw [h3] at v1 v2
      have:=(X.vk (0,0,i') (by show 0 < 1; omega) v1).2
      rw [this,v2]
    · show (match all.find? _ with | some k => c2.m k | none => c.m _)=_
      cases hf:all.find? (fun x => !decide (x.1=0) && decide (ψ x=ψ k)) with
      | none =>
        exfalso
        have:=List.find?_eq_none.1 hf k hk
        simp [h0] at this
      | some x =>
        have h1:=List.find?_some hf
        have h2:=List.mem_of_find?_eq_some hf
        simp only [Bool.and_eq_true,Bool.not_eq_true',decide_eq_false_iff_not,decide_eq_true_eq] at h1
        rw [inj x h2 k hk h1.2]
  let c':Cx:=⟨c2.w,c2.Rd,m',putAll c2.h ψ all c.h⟩
  have muNew:∀ k ∈ all,c'.mu (ψ k)=c2.mu k:=fun k hk => congrArg Prod.fst (mNew k hk)
  have muOld:∀ q o,lookK c.h q=some o → c'.mu q=c.mu q:=fun q o ho => congrArg Prod.fst (mOld q o ho)
  -- each thing is either given back or as it was
  have cases':∀ q o,lookK c'.h q=some o → (∃ k ∈ all,q=ψ k ∧ ∃ o2,lookK c2.h k=some o2 ∧ o = { o2 with cells:=AV.rnL ψ o2.cells }) ∨ ((∀ k ∈ all,ψ k ≠ q) ∧ lookK c.h q=some o):=by
    intro q o hq
    by_cases hx:∃ k ∈ all,ψ k=q
    · obtain ⟨k,hk,rfl⟩:=hx
      obtain ⟨o2,ho2,_⟩:=cl k hk
      have:=look k hk o2 ho2
      change lookK (putAll c2.h ψ all c.h) (ψ k)=_ at hq
      rw [this] at hq; cases hq
      exact .inl ⟨k,hk,rfl,o2,ho2,rfl⟩
    · have hx':∀ k ∈ all,ψ k ≠ q:=fun k hk h => hx ⟨k,hk,h⟩
      refine .inr ⟨hx',?_⟩
      change lookK (putAll c2.h ψ all c.h) q=_ at hq
      rwa [other q hx'] at hq
  have vkAll:∀ q,c.Vk q → c'.Vk q ∧ c'.m q=c.m q:=by
    rintro q ⟨o,ho⟩
    refine ⟨?_,mOld q o ho⟩
    by_cases hx:∃ k ∈ all,ψ k=q
    · obtain ⟨k,hk,rfl⟩:=hx
      obtain ⟨o2,ho2,_⟩:=cl k hk
      exact ⟨_,look k hk o2 ho2⟩
    · exact ⟨o,(other q fun k hk h => hx ⟨k,hk,h⟩).trans ho⟩
  -- what was lent is all that the callee could turn
  have lentNot:∀ q o,(∀ k ∈ all,ψ k ≠ q) → lookK c.h q=some o → o.live=true → ¬ (lentC c ks hl).Mut (c.mu q):=by
    rintro q o hq ho hlv ⟨p,op,hp,lp,mp,ep⟩
    obtain ⟨a1,a2⟩:=lendH_get e inK_inj
    obtain ⟨k,hk,rfl,o',ho',rfl⟩:=a2 p op hp
    have hk2:(lentC c ks hl).mu (inK ks k)=c.mu k:=congrArg Prod.fst (L4 k hk).2
    rw [hk2] at ep
    have hkq:k ≠ q:=by
      obtain ⟨i,h3,h4⟩:=inK_of hk
      have hin:(0,0,i) ∈ all:=by
        refine allKs_mem k4 _ ?_
        unfold lentKs
        rw [List.mem_map]
        exact ⟨i,by rw [List.mem_range]; exact (List.getElem?_eq_some_iff.1 h4).1,rfl⟩
      obtain ⟨i',q',h5,h6,h7⟩:=lent _ hin rfl
      have:i'=i:=by simpa using h5.symm
      subst this
      rw [h4] at h6; cases h6
      intro hkq
      exact hq _ hin (h7.trans hkq)
    cases hm:o.mt with
    | true => exact hkq (H.inj k o' q o ho' ho lp hlv mp hm ep)
    | false => exact (H.mt k o' ho' lp mp).1 (ep ▸ H.sld q o ho hlv hm)
  have stay:∀ q o,(∀ k ∈ all,ψ k ≠ q) → lookK c.h q=some o → o.live=true → c2.w.heap[c.mu q]? = c.w.heap[c.mu q]?:=by
    intro q o hq ho hlv
    obtain ⟨arr,_,_,h1,_⟩:=H.obj q o ho hlv
    exact X.frame _ (Array.getElem?_eq_some_iff.1 h1).1 (lentNot q o hq ho hlv)
  have rdmono:∀ b,c.Rd b → c'.Rd b ∧ c'.w.heap[b]? = c.w.heap[b]?:=fun b hb => ⟨X.rd b hb,X.frame b (H.rd b hb) fun hm => H.not_mut hb (L3 b hm)⟩
  have rvOld:∀ x v,RV c x v → RV c' x v:=fun x v hx => hx.mono (c:=c) (c':=c') rdmono fun k _ hk => vkAll k hk
  have rvNew:∀ x v,RV c2 x v → (∀ k ∈ x.keys,k ∈ all) → RV c' (x.rn ψ) v:=fun x v hx hk =>
    RV.rn (c:=c2) (c':=c') (φ:=ψ) (fun b hb => ⟨hb,rfl⟩) hx fun k hk' _ => by
      obtain ⟨o2,ho2,_⟩:=cl k (hk k hk')
      exact ⟨⟨_,look k (hk k hk') o2 ho2⟩,mNew k (hk k hk')⟩
  have Hc:HR base c':=by
    refine ⟨?_,?_,?_,?_,H2.rd⟩
    · intro q o hq hlv
      rcases cases' q o hq with ⟨k,hk,rfl,o2,ho2,rfl⟩ | ⟨hne,ho⟩
      · obtain ⟨arr,ty,fr,g1,g2,g3,g4,g4b,g5⟩:=H2.obj k o2 ho2 hlv
        obtain ⟨o3,ho3,hcl3⟩:=cl k hk
        rw [ho2] at ho3; cases ho3
        refine ⟨arr,ty,fr,by rw [muNew k hk]; exact g1,g2,by simpa [rnL_length] using g3,fun hx => by simpa [rnL_length] using g4 hx,fun hx => by show arr.size=(m' _).2 * _; rw [mNew k hk]; exact g4b hx,fun i x hx => ?_⟩
        rw [rnL_get] at hx
        obtain ⟨y,hy,rfl⟩:=map_some hx
        obtain ⟨v,q1,q2,q3⟩:=g5 i y hy
        exact ⟨v,q1,rvNew y v q2 fun p hp => hcl3 p (mem_keysL_get hy p hp),by rw [rn_scal]; exact q3⟩
      · obtain ⟨arr,ty,fr,g1,g2,g3,g4,g4b,g5⟩:=H.obj q o ho hlv
        refine ⟨arr,ty,fr,?_,g2,g3,g4,fun hx => by show arr.size=(m' _).2 * _; rw [mOld q o ho]; exact g4b hx,fun i x hx => ?_⟩
        · rw [muOld q o ho]
          exact (stay q o hne ho hlv).trans g1
        · obtain ⟨v,q1,q2,q3⟩:=g5 i x hx
          exact ⟨v,q1,rvOld x v q2,q3⟩
    · intro q o hq hlv hm
      rcases cases' q o hq with ⟨k,hk,rfl,o2,ho2,rfl⟩ | ⟨hne,ho⟩
      · rw [muNew k hk]; exact H2.mt k o2 ho2 hlv hm
      · rw [muOld q o ho]
        have:=H.mt q o ho hlv hm
        refine ⟨fun hr => ?_,this.2⟩
        rcases X.newrd _ hr with h | h | h
        · exact this.1 h
        · obtain ⟨arr,_,_,h1,_⟩:=H.obj q o ho hlv
          have h2:=(Array.getElem?_eq_some_iff.1 h1).1
          have h3:c.w.heap.size ≤ c.mu q:=h
          omega
        · exact lentNot q o hne ho hlv h
    · intro q o hq hlv hm
      rcases cases' q o hq with ⟨k,hk,rfl,o2,ho2,rfl⟩ | ⟨hne,ho⟩
      · rw [muNew k hk]; exact H2.sld k o2 ho2 hlv hm
      · rw [muOld q o ho]
        exact X.rd _ (H.sld q o ho hlv hm)
    · intro q o q' o' hq hq' hlv hlv' hm hm' ee
      have mixed:∀ q o k o2,(∀ k ∈ all,ψ k ≠ q) → lookK c.h q=some o → o.live=true → lookK c2.h k=some o2 → o2.live=true → o2.mt=true → c.mu q=c2.mu k → False:=by
        intro q o k o2 hne ho hlv ho2 hlv2 hm2 ee
        rcases X.newmut (c2.mu k) ⟨k,o2,ho2,hlv2,hm2,rfl⟩ with h | h
        · exact lentNot q o hne ho hlv (ee ▸ h)
        · obtain ⟨arr,_,_,h1,_⟩:=H.obj q o ho hlv
          have h2:=(Array.getElem?_eq_some_iff.1 h1).1
          have h3:c.w.heap.size ≤ c2.mu k:=h
          omega
      rcases cases' q o hq with ⟨k,hk,rfl,o2,ho2,rfl⟩ | ⟨hne,ho⟩
      · rcases cases' q' o' hq' with ⟨k',hk',rfl,o2',ho2',rfl⟩ | ⟨hne',ho'⟩
        · rw [muNew k hk,muNew k' hk'] at ee
          rw [H2.inj k o2 k' o2' ho2 ho2' hlv hlv' hm hm' ee]
        · rw [muNew k hk,muOld q' o' ho'] at ee
          exact (mixed q' o' k o2 hne' ho' hlv' ho2 hlv hm ee.symm).elim
      · rcases cases' q' o' hq' with ⟨k',hk',rfl,o2',ho2',rfl⟩ | ⟨hne',ho'⟩
        · rw [muOld q o ho,muNew k' hk'] at ee
          exact (mixed q o k' o2' hne ho hlv ho2' hlv' hm' ee).elim
        · rw [muOld q o ho,muOld q' o' ho'] at ee
          exact H.inj q o q' o' ho ho' hlv hlv' hm hm' ee
  refine ⟨c',rfl,rfl,Hc,⟨X.os,X.tape,X.output,X.size,fun b hb hm => X.frame b hb fun h => hm (L3 b h),fun b hb => X.rd b hb,vkAll,fun b hb => ?_,?_⟩,?_,fun b h => h⟩
  · rcases X.newrd b hb with h | h | h
    · exact .inl h
    · exact .inr (.inl h)
    · exact .inr (.inr (L3 b h))
  · rintro b ⟨q,o,hq,hlv,hm,rfl⟩
    rcases cases' q o hq with ⟨k,hk,rfl,o2,ho2,rfl⟩ | ⟨hne,ho⟩
    · rw [muNew k hk]
      rcases X.newmut (c2.mu k) ⟨k,o2,ho2,hlv,hm,rfl⟩ with h | h
      · exact .inl (L3 _ h)
      · exact .inr h
    · rw [muOld q o ho]
      exact .inl ⟨q,o,ho,hlv,hm,rfl⟩
  · refine RVs.of_get (by rw [rnL_length,hv.length]) fun i x v hx hvv => ?_
    rw [rnL_get] at hx
    obtain ⟨y,hy,rfl⟩:=map_some hx
    obtain ⟨v2,q1,q2⟩:=hv.get hy
    rw [hvv] at q1; cases q1
    exact rvNew y v q2 fun p hp => allKs_mem k3 p (mem_keysL_get hy p hp)
end Ab
/- Calls of the evaluator are the model's. Own work, no conditions. -/
set_option linter.unusedVariables false
set_option linter.unusedSimpArgs false
namespace Ab
open Go
mutual
theorem rn_pure {φ:Key → Key}:∀ (x:AV),x.pure=true → x.rn φ=x
  | .int ..,_ => rfl
  | .bool _,_ => rfl
  | .str _,_ => rfl
  | .agg cs,h => by simp only [AV.rn]; rw [rnL_pure cs (by simpa [AV.pure] using h)]
  | .tup cs,h => by simp only [AV.rn]; rw [rnL_pure cs (by simpa [AV.pure] using h)]
  | .sl ..,_ => rfl
  | .ref ..,h => by simp [AV.pure] at h
  | .ptr ..,h => by simp [AV.pure] at h
  | .pel _,_ => rfl
  | .nilp,_ => rfl
  | .fn _ a b,h => by
    simp only [AV.pure,Bool.and_eq_true] at h
    simp only [AV.rn]; rw [rnL_pure a h.1,rnL_pure b h.2]
  | .nilf,_ => rfl
  | .iface _ v,h => by simp only [AV.rn]; rw [rn_pure v (by simpa [AV.pure] using h)]
  | .nili,_ => rfl
theorem rnL_pure {φ:Key → Key}:∀ (xs:List AV),AV.pureL xs=true → AV.rnL φ xs=xs
  | [],_ => rfl
  | x :: xs,h => by
    simp only [AV.pureL,Bool.and_eq_true] at h
    simp only [AV.rnL]; rw [rn_pure x h.1,rnL_pure xs h.2]
end
def RunOK (P:Program) (E:Env) (run:RunF):Prop :=
  ∀ base c f args vals r h',run f args c.h=some (r,h') → HR base c → base ≤ c.w.heap.size → GOK E c → RVs c args vals →
    ∃ g vals',(callFunc f ⟨vals⟩).run P c.w=.ok (.enter g vals') c.w ∧ Calls P g vals' c.w fun e w' => ∃ c',c'.w=w' ∧ c'.h=h' ∧ HR base c' ∧ ExtL 1 base c c' ∧ ResR c' r e
theorem RVs.pure_mono {c c':Cx} (hR:∀ b,c.Rd b → c'.Rd b ∧ c'.w.heap[b]? = c.w.heap[b]?) {xs vs} (h:RVs c xs vs) (hp:AV.pureL xs=true):RVs c' xs vs :=
  h.mono hR fun k hk => by rw [AV.keysL_pure xs hp] at hk; cases hk
theorem lendA_sound {E base c ks args vals slot sr run r h'} (H:HR base c) (hnd:ks.Nodup) (h:lendA ks slot c.h args sr run=some (r,h')) (hv:RVs c args vals) :
    ∃ hl,HR base (lentC c ks hl) ∧ RVs (lentC c ks hl) (AV.rnL (inK ks) args) vals ∧ (GOK E c → GOK E (lentC c ks hl)) ∧ (∀ x v,RV c x v → x.pure=true → RV (lentC c ks hl) x v) ∧ ∃ r0 hf,run (AV.rnL (inK ks) args) hl=some (r0,hf) ∧
      ∀ c1,c1.h=hf → HR base c1 → ExtL 1 base (lentC c ks hl) c1 → ∀ e,ResR c1 r0 e → ∃ c',c'.w=c1.w ∧ c'.h=h' ∧ HR base c' ∧ Ext base c c' ∧ ResR c' r e:=by
  unfold lendA at h
  split at h
  case h_2 => cases h
  rename_i hl hlend
  split at h
  case isFalse => cases h
  rename_i hc
  obtain ⟨hcl,hak⟩:=hc
  obtain ⟨L1,L2,L3,L4⟩:=lend_in H hlend hcl
  have pur:∀ x v,RV c x v → x.pure=true → RV (lentC c ks hl) x v:=fun x v hx hp => by
    have:=L2 x v hx (fun k hk => by rw [AV.keys_pure x hp] at hk; cases hk)
    rwa [rn_pure x hp] at this
  refine ⟨hl,L1,?_,fun G i cs hi => pur _ _ (G i cs hi) rfl,pur,?_⟩
  · refine RVs.of_get (by rw [rnL_length,hv.length]) fun i x v hx hvv => ?_
    rw [rnL_get] at hx
    obtain ⟨y,hy,rfl⟩:=map_some hx
    obtain ⟨v2,q1,q2⟩:=hv.get hy
    rw [hvv] at q1; cases q1
    exact L2 y v q2 fun p hp => allKs_mem hak p (mem_keysL_get hy p hp)
  cases hr:run (AV.rnL (inK ks) args) hl with
  | none => rw [hr] at h; simp [backR] at h
  | some p =>
    obtain ⟨r0,hf⟩:=p
    rw [hr] at h
    refine ⟨r0,hf,rfl,fun c1 hh H1 X e he => ?_⟩
    subst hh
    have giveV:∀ (c2:Cx) (v:AV) (val:Value),c2.w=c1.w → HR base c2 → ExtL 1 base (lentC c ks hl) c2 → RV c2 v val → backV ks slot c.h c2.h v=some (r,h') → ∃ v',r=.ret v' ∧ ∃ c',c'.w=c1.w ∧ c'.h=h' ∧ HR base c' ∧ Ext base c c' ∧ RV c' v' val:=by
      intro c2 v val hw H2 X2 hv2 hb
      unfold backV at hb
      split at hb
      case h_2 => cases hb
      rename_i v' hx hbk
      cases hb
      obtain ⟨c',a1,a2,a3,a4,a5,_⟩:=lend_out H hnd hlend hcl H2 X2 (.cons _ _ _ _ hv2 .nil) hbk
      cases a5 with
      | cons _ _ _ _ a6 _ => exact ⟨v',rfl,c',a1.trans hw,a2,a3,a4,a6⟩
    cases r0 with
    | ret v =>
      obtain ⟨val,rfl,hv1⟩:=he
      simp only [backR] at h
      cases sr with
      | false =>
        simp only [Bool.false_eq_true,if_false] at h
        obtain ⟨v',rfl,c',a1,a2,a3,a4,a5⟩:=giveV c1 v val rfl H1 X hv1 h
        exact ⟨c',a1,a2,a3,a4,val,rfl,a5⟩
      | true =>
        simp only [if_true] at h
        split at h
        case h_2 => cases h
        rename_i v1 h2 hs
        obtain ⟨c2,d1,d2,d3,d4,d5,d6⟩:=sealA_sound base 20 c1 v v1 h2 val hs H1 hv1
        rw [← d1] at h
        obtain ⟨v',rfl,c',a1,a2,a3,a4,a5⟩:=giveV c2 v1 val d2 d4 (X.trans (d5.toL 1)) d6 h
        exact ⟨c',a1,a2,a3,a4,val,rfl,a5⟩
    | panic ch =>
      obtain ⟨chain,rfl,hch,hrec⟩:=he
      simp only [backR] at h
      split at h
      case isFalse => cases h
      rename_i hp
      split at h
      case h_2 => cases h
      rename_i _ h2 hbk
      cases h
      obtain ⟨c',a1,a2,a3,a4,_,a6⟩:=lend_out H hnd hlend hcl H1 X .nil hbk
      exact ⟨c',a1,a2,a3,a4,chain,rfl,hch.pure_mono (fun b hb => ⟨a6 b hb,by rw [a1]⟩) hp,hrec⟩
theorem sealM_sound {base f} (hf:SealOK base f):∀ m l c l' h' vals,sealM f m c.h l=some (l',h') → HR base c → RVs c l vals →
    ∃ c',c'.h=h' ∧ c'.w=c.w ∧ c'.m=c.m ∧ HR base c' ∧ Ext base c c' ∧ RVs c' l' vals
  | m,[],c,l',h',vals,e,H,hv => by
    have e':sealM f m c.h []=some ([],c.h):=by cases m with
      | nil => rfl
      | cons b m => cases b <;> rfl
    rw [e'] at e; cases e
    exact ⟨c,rfl,rfl,rfl,H,.refl _ _,hv⟩
  | true :: m,x :: r,c,l',h',_,e,H,.cons _ v _ vs h1 h2 => by
    simp only [sealM] at e
    split at e
    case h_2 => cases e
    rename_i l2 hh2 e2
    cases e
    obtain ⟨c2,b1,b2,b3,b4,b5,b6⟩:=sealM_sound hf m r c l2 _ vs e2 H h2
    exact ⟨c2,b1,b2,b3,b4,b5,.cons _ _ _ _ (b5.rv H h1) b6⟩
  | false :: m,x :: r,c,l',h',_,e,H,.cons _ v _ vs h1 h2 => by
    simp only [sealM] at e
    split at e
    case h_2 => cases e
    rename_i y hh e1
    split at e
    case h_2 => cases e
    rename_i l2 hh2 e2
    cases e
    obtain ⟨c1,a1,a2,a3,a4,a5,a6⟩:=hf c x y hh v e1 H h1
    subst a1
    obtain ⟨c2,b1,b2,b3,b4,b5,b6⟩:=sealM_sound hf m r c1 l2 _ vs e2 a4 (a5.rvs H h2)
    exact ⟨c2,b1,b2.trans a2,b3.trans a3,b4,a5.trans b5 H,.cons _ _ _ _ (b5.rv a4 a6) b6⟩
  | [],x :: r,c,l',h',vals,e,H,hv => sealL_sound hf (x :: r) c l' h' vals e H hv
theorem reach_nil (h:Heap):∀ n,reach h n []=[]
  | 0 => rfl
  | n + 1 => by simp [reach,reach_nil h n]
theorem sealed_lend {run:RunF} {slot f args h r h'} (e:sealed run slot f args h=some (r,h')):∃ args' h1,sealLW (sealA 20) h args=some (args',h1) ∧ AV.pureL args'=true ∧ lendA [] slot h1 args' true (run f)=some (r,h'):=by
  unfold sealed at e
  split at e
  case h_2 => cases e
  rename_i args' h1 hs
  split at e
  case isFalse => cases e
  rename_i hp
  refine ⟨args',h1,hs,hp,?_⟩
  have bk:∀ (h2:Heap) (vs:List AV),AV.pureL vs=true → back [] slot h1 h2 vs=some (vs,h1):=by
    intro h2 vs hvs
    unfold back
    have:dd (reach h2 3 (lentKs ([]:List Key).length ++ AV.keysL vs))=[]:=by
      rw [AV.keysL_pure vs hvs]
      show dd (reach h2 3 [])=[]
      rw [reach_nil]; rfl
    rw [this]
    unfold backA
    rw [AV.keysL_pure vs hvs,rnL_pure vs hvs]
    rfl
  unfold lendA
  simp only [lendH,closedH,AV.keysL_pure args' hp,rnL_pure args' hp,List.all_nil,and_self,if_true]
  unfold sealR at e
  split at e
  · rename_i v hf hrun
    split at e
    case h_2 => cases e
    rename_i v' hh hsl
    split at e
    case isFalse => cases e
    rename_i hvp
    cases e
    rw [hrun]
    simp only [backR,if_true,hsl,backV,bk _ [v'] (by simp [AV.pureL,hvp])]
  · rename_i ch hf hrun
    split at e
    case isFalse => cases e
    rename_i hvp
    cases e
    rw [hrun]
    simp only [backR,hvp,if_true,bk _ [] rfl]
  · cases e
theorem lend_ok {P E run} (R:RunOK P E run) {base c ks args vals slot sr f r h'} (H:HR base c) (hb:base ≤ c.w.heap.size) (G:GOK E c) (hnd:ks.Nodup) (h:lendA ks slot c.h args sr (run f)=some (r,h')) (hv:RVs c args vals) :
    CallS P E base c f vals r h':=by
  obtain ⟨hl,H0,hv0,G0,_,r0,hf,hrun,fin⟩:=lendA_sound (E:=E) H hnd h hv
  obtain ⟨g,vals',e1,e2⟩:=R base (lentC c ks hl) f _ vals r0 hf hrun H0 hb (G0 G) hv0
  refine ⟨g,vals',e1,e2.mono ?_⟩
  rintro e w' ⟨c1,rfl,q2,q3,q4,q5⟩
  exact fin c1 q2 q3 q4 e q5
theorem CallS.after {P E base c cs f vals r h'} (hw:cs.w=c.w) (X:Ext base c cs) (H:HR base c) (h:CallS P E base cs f vals r h'):CallS P E base c f vals r h':=by
  obtain ⟨g,vals',e1,e2⟩:=h
  rw [hw] at e1 e2
  refine ⟨g,vals',e1,e2.mono ?_⟩
  rintro e w' ⟨c',q1,q2,q3,q4,q5⟩
  exact ⟨c',q1,q2,q3,X.trans q4 H,q5⟩
theorem sealed_ok {P E run} (R:RunOK P E run):CallOK P E (sealed run):=by
  intro base c slot f args vals r h' h H hb G hv
  obtain ⟨args',h1,s1,_,s3⟩:=sealed_lend h
  obtain ⟨cs,a1,a2,a3,a4,a5,a6⟩:=sealL_sound (sealA_sound base 20) args c args' h1 vals s1 H hv
  rw [← a1] at s3
  exact (lend_ok R a4 (by rw [a2]; exact hb) (G.ext a5 H) .nil s3 a6).after a2 a5 H
theorem dcall_ok {P E run} (R:RunOK P E run):CallOK P E (dcall run):=by
  intro base c slot f args vals r h' h H hb G hv
  unfold dcall at h
  split at h
  · exact sealed_ok R base c 0 f args vals r h' h H hb G hv
  · split at h
    case h_2 => cases h
    rename_i args' h1 hs
    split at h
    case isFalse => cases h
    rename_i hc
    cases r with
    | panic ch =>
      unfold lookR at h
      split at h
      · split at h <;> cases h
      · cases h
    | ret v =>
    obtain ⟨rfl,hf,g,hg⟩:=lookR_some h
    obtain ⟨cs,a1,a2,a3,a4,a5,a6⟩:=sealL_sound (sealA_sound base 20) args c args' h1 vals hs H hv
    unfold sealed at hg
    rw [sealL_of_pure 19 args' c.h hc.1] at hg
    simp only [hc.1,if_true] at hg
    cases hr:run f args' [] with
    | none => rw [hr] at hg; cases hg
    | some p =>
    obtain ⟨r0,hf0⟩:=p
    rw [hr] at hg
    cases r0 with
    | panic ch =>
      simp only [sealR] at hg
      split at hg <;> simp at hg
    | ret v0 =>
    simp only [sealR] at hg
    split at hg
    case h_2 => cases hg
    rename_i v1 hh hsl
    split at hg
    case isFalse => cases hg
    cases hg
    have e0:lendH cs.h (inK []) []=some []:=rfl
    obtain ⟨L1,L2,L3,L4⟩:=lend_in a4 e0 rfl
    have hv0:RVs (lentC cs [] []) args' vals:=RVs.pure_mono (c:=cs) (c':=lentC cs [] []) (fun b hb => ⟨hb,rfl⟩) a6 hc.1
    have G0:GOK E (lentC cs [] []):=fun i cl hi => by
      have:=L2 _ _ (G.ext a5 H i cl hi) (fun k hk => by simp [AV.keys] at hk)
      exact this
    obtain ⟨g2,vals',e1,e2⟩:=R base (lentC cs [] []) f args' vals (.ret v0) hf0 hr L1 (by show base ≤ cs.w.heap.size; rw [a2]; exact hb) G0 hv0
    have hw:(lentC cs [] []).w=c.w:=a2
    rw [hw] at e1 e2
    refine ⟨g2,vals',e1,e2.mono ?_⟩
    rintro e w' ⟨c1,rfl,q2,q3,q4,val,rfl,q5⟩
    have hnm:∀ b,¬ (lentC cs [] []).Mut b:=by rintro b ⟨k,o,hk,_⟩; simp [lentC,lookK] at hk
    have old:∀ b,b < c.w.heap.size → c1.w.heap[b]? = c.w.heap[b]?:=fun b hb => by
      have:=q4.frame b (by rw [hw]; exact hb) (hnm b)
      rw [hw] at this; exact this
    have hsz:c.w.heap.size ≤ c1.w.heap.size:=by have:=q4.size; rw [hw] at this; exact this
    rw [← q2] at hsl
    obtain ⟨c2,t1,t2,t3,t4,t5,t6⟩:=sealA_sound base 20 c1 _ _ _ val hsl q3 q5
    let c':Cx:=⟨c1.w,c.Rd,c.m,c.h⟩
    have rv:∀ x v,RV c x v → RV c' x v:=fun x v hx => hx.mono (c:=c) (c':=c') (fun b hb => ⟨hb,old b (H.rd b hb)⟩) fun k _ hk => ⟨hk,rfl⟩
    refine ⟨c',rfl,rfl,⟨?_,H.mt,H.sld,H.inj,fun b hb => Nat.lt_of_lt_of_le (H.rd b hb) hsz⟩,⟨?_,?_,?_,hsz,fun b hb _ => old b hb,fun b hb => hb,fun k hk => ⟨hk,rfl⟩,fun b hb => .inl hb,fun b hb => .inl hb⟩,val,rfl,t6.flatR hf⟩
    · intro k o hk hl
      obtain ⟨arr,ty,fr,g1,g2,g3,g4,g4b,g5⟩:=H.obj k o hk hl
      exact ⟨arr,ty,fr,(old _ (Array.getElem?_eq_some_iff.1 g1).1).trans g1,g2,g3,g4,g4b,fun i x hx => by
        obtain ⟨v,z1,z2,z3⟩:=g5 i x hx
        exact ⟨v,z1,rv _ _ z2,z3⟩⟩
    · have:=q4.os; rw [hw] at this; exact this
    · have:=q4.tape; rw [hw] at this; exact this
    · have:=q4.output; rw [hw] at this; exact this
theorem site_ok {P E run} (R:RunOK P E run) (fn:AFn):CallOK P E (site fn run):=by
  intro base c slot f args vals r h' h H hb G hv
  unfold site at h
  split at h
  · exact sealed_ok R base c slot f args vals r h' h H hb G hv
  · rename_i m sr _
    unfold opened at h
    split at h
    case h_2 => cases h
    rename_i args' h1 hs
    obtain ⟨cs,a1,a2,a3,a4,a5,a6⟩:=sealM_sound (sealA_sound base 20) m args c args' h1 vals hs H hv
    rw [← a1] at h
    exact (lend_ok R a4 (by rw [a2]; exact hb) (G.ext a5 H) (dd_nodup _) h a6).after a2 a5 H
/-! ### A function that defers a closure which recovers -/
def flat:Code → List Code
  | .seq a b => flat a ++ flat b
  | c => [c]
def wpL (P:Program) (Q:Exit → Act → World → Prop):List Code → Act → World → Prop
  | [],a,w => Q .normal a w
  | c :: r,a,w => c.wp P (Exit.then (wpL P Q r) Q) a w
theorem then_other {next:Act → World → Prop} {Q:Exit → Act → World → Prop} {e a w} (hne:e ≠ .normal):Exit.then next Q e a w=Q e a w:=by
  cases e <;> first | rfl | exact absurd rfl hne
theorem wp_flat {P:Program}:∀ (c:Code) {r:List Code} {Q a w},wpL P Q (flat c ++ r) a w → c.wp P (Exit.then (wpL P Q r) Q) a w
  | .seq x y,r,Q,a,w,h => by
    simp only [flat,List.append_assoc] at h
    refine wp_seq (wp_mono (wp_flat x h) fun e a' w' hq => ?_)
    by_cases he:e=.normal
    · subst he
      exact wp_flat y hq
    · rw [then_other he] at hq ⊢
      rw [then_other he]; exact hq
  | .skip,r,Q,a,w,h => h
  | .region ..,r,Q,a,w,h => h
  | .cond ..,r,Q,a,w,h => h
  | .block ..,r,Q,a,w,h => h
  | .loop _,r,Q,a,w,h => h
  | .rangeFunc ..,r,Q,a,w,h => h
  | .exit _,r,Q,a,w,h => h
  | .scope _,r,Q,a,w,h => h
  | .label _,r,Q,a,w,h => h
  | .goto _,r,Q,a,w,h => h
  | .ret,r,Q,a,w,h => h
  | .refuse _,r,Q,a,w,h => h
theorem wp_flat' {P:Program} {c:Code} {Q a w} (h:wpL P Q (flat c) a w):c.wp P Q a w:=by
  refine wp_mono (wp_flat c (r:=[]) (by simpa using h)) fun e a' w' hq => ?_
  by_cases he:e=.normal
  · subst he; exact hq
  · rwa [then_other he] at hq
theorem wpL_mono {P:Program} {Q Q':Exit → Act → World → Prop} (hq:∀ e a w,Q e a w → Q' e a w):∀ {l a w},wpL P Q l a w → wpL P Q' l a w
  | [],a,w,h => hq _ _ _ h
  | c :: r,a,w,h => wp_mono h fun e a' w' hh => by
    by_cases he:e=.normal
    · subst he; exact wpL_mono hq hh
    · rw [then_other he] at hh ⊢; exact hq _ _ _ hh
theorem wpL_app {P:Program} {Q:Exit → Act → World → Prop}:∀ {l r a w},wpL P (Exit.then (wpL P Q r) Q) l a w → wpL P Q (l ++ r) a w
  | [],r,a,w,h => h
  | c :: l,r,a,w,h => wp_mono h fun e a' w' hh => by
    by_cases he:e=.normal
    · subst he; exact wpL_app hh
    · rw [then_other he] at hh ⊢; rwa [then_other he] at hh
def wpSL (P:Program) (Q:Exit → Act → List Frame → World → Prop):List Code → Act → List Frame → World → Prop
  | [],a,cs,w => Q .normal a cs w
  | c :: r,a,cs,w => c.wpS P (Exit.thenS (wpSL P Q r) Q) a cs w
theorem thenS_other {next:Act → List Frame → World → Prop} {Q:Exit → Act → List Frame → World → Prop} {e a cs w} (hne:e ≠ .normal):Exit.thenS next Q e a cs w=Q e a cs w:=by
  cases e <;> first | rfl | exact absurd rfl hne
theorem wpS_mono {P:Program} {c:Code} {Q Q':Exit → Act → List Frame → World → Prop} {a cs w} (h:c.wpS P Q a cs w) (hq:∀ e a cs w,Q e a cs w → Q' e a cs w):c.wpS P Q' a cs w :=
  fun b k h1 h2 => let ⟨e,a',cs',w',q,r⟩:=h b k h1 h2; ⟨e,a',cs',w',hq _ _ _ _ q,r⟩
theorem wpS_flat {P:Program}:∀ (c:Code) {r:List Code} {Q a cs w},wpSL P Q (flat c ++ r) a cs w → c.wpS P (Exit.thenS (wpSL P Q r) Q) a cs w
  | .seq x y,r,Q,a,cs,w,h => by
    simp only [flat,List.append_assoc] at h
    refine wpS_seq (wpS_mono (wpS_flat x h) fun e a' cs' w' hq => ?_)
    by_cases he:e=.normal
    · subst he
      exact wpS_flat y hq
    · rw [thenS_other he] at hq ⊢
      rw [thenS_other he]; exact hq
  | .skip,r,Q,a,cs,w,h => h
  | .region ..,r,Q,a,cs,w,h => h
  | .cond ..,r,Q,a,cs,w,h => h
  | .block ..,r,Q,a,cs,w,h => h
  | .loop _,r,Q,a,cs,w,h => h
  | .rangeFunc ..,r,Q,a,cs,w,h => h
  | .exit _,r,Q,a,cs,w,h => h
  | .scope _,r,Q,a,cs,w,h => h
  | .label _,r,Q,a,cs,w,h => h
  | .goto _,r,Q,a,cs,w,h => h
  | .ret,r,Q,a,cs,w,h => h
  | .refuse _,r,Q,a,cs,w,h => h
theorem wpSL_of_wpL {P:Program} {Q:Exit → Act → List Frame → World → Prop} {cs}:∀ {l a w},wpL P (fun e a' w' => Q e a' cs w') l a w → wpSL P Q l a cs w
  | [],a,w,h => h
  | c :: r,a,w,h => wpS_of_wp (wp_mono h fun e a' w' hh => by
    by_cases he:e=.normal
    · subst he; exact wpSL_of_wpL hh
    · rw [then_other he] at hh; rw [thenS_other he]; exact hh)
def eraseCs (dyn:Nat → List (Nat × Nat)):List Code → Option (List Code)
  | [] => some []
  | c :: r => match eraseC dyn c,eraseCs dyn r with
    | some x,some l => some (x :: l)
    | _,_ => none
theorem aCodes_sound {P E} (O:EnvOK P E) (D:DrawSound P E) {call sc:CallF} (C:CallOK P E call) (Cs:CallOK P E sc) (hCP:CP sc)
    {Ds:List Deferred} {base fuel lvl:Nat} {fn:AFn}:∀ (l l':List Code),eraseCs fn.dyn l=some l' → ∀ (s:St) ex s',aCodes E call sc fuel lvl fn l' s=some (ex,s') → ∀ (c:Cx) (a:Act),HR base c → base ≤ c.w.heap.size → GOK E c → c.h=s.h → FR c fn.ntmps s.t a.tmps → a.defers=Ds →
    wpL P (Post Ds lvl base fn.ntmps c ex s') l a c.w
  | [],l',e,s,ex,s',h,c,a,H,hb,G,hh,F,hd => by
    simp only [eraseCs,Option.some.injEq] at e; subst e
    simp only [aCodes,Option.some.injEq,Prod.mk.injEq] at h
    obtain ⟨rfl,rfl⟩:=h
    exact ⟨c,rfl,hh,H,.refl _ _ _,F,hd,rfl⟩
  | x :: r,l',e,s,ex,s',h,c,a,H,hb,G,hh,F,hd => by
    simp only [eraseCs] at e
    split at e
    case h_2 => cases e
    rename_i x' l2 ex' el
    simp only [Option.some.injEq] at e; subst e
    simp only [aCodes] at h
    cases hr:aCode E call sc fuel lvl fn x' s with
    | none => rw [hr] at h; cases h
    | some p =>
      obtain ⟨ex1,s1⟩:=p
      rw [hr] at h
      refine wp_mono (aCode_sound O D C Cs hCP (L:=lvl) rfl x x' ex' s ex1 s1 hr c a H hb G hh F hd) ?_
      rintro e a' w' ⟨c1,rfl,q2,q3,q4,q5,q6,q7⟩
      cases ex1 with
      | normal =>
        obtain rfl:=q7
        simp only at h
        exact wpL_mono (fun e a w hp => hp.seq q4) (aCodes_sound O D C Cs hCP r l2 el s1 ex s' h c1 a' q3 (Nat.le_trans hb q4.size) (G.extL q4 H) q2 q5 q6)
      | exit i =>
        simp only [Option.some.injEq,Prod.mk.injEq] at h
        obtain ⟨rfl,rfl⟩:=h
        obtain rfl:=q7
        exact ⟨c1,rfl,q2,q3,q4,q5,q6,rfl⟩
      | ret =>
        simp only [Option.some.injEq,Prod.mk.injEq] at h
        obtain ⟨rfl,rfl⟩:=h
        obtain rfl:=q7
        exact ⟨c1,rfl,q2,q3,q4,q5,q6,rfl⟩
      | panic ch =>
        simp only [Option.some.injEq,Prod.mk.injEq] at h
        obtain ⟨rfl,rfl⟩:=h
        obtain ⟨chain,rfl,q8⟩:=q7
        exact ⟨c1,rfl,q2,q3,q4,q5,q6,chain,rfl,q8⟩
end Ab
/- Runs of the evaluator are the model's: plain functions, and such as defer a closure that recovers. Own work, no conditions. -/
set_option linter.unusedVariables false
set_option linter.unusedSimpArgs false
namespace Ab
open Go
def capsOf:List Operand → Option (List Nat)
  | [] => some []
  | .tmp i :: r => (capsOf r).map (i :: ·)
  | _ :: _ => none
def dfrOps (ops:Array Oper):Option (Nat × FuncId × List Nat) :=
  match ops.toList with
  | [⟨some t,.makeFunc (.func g) ⟨[]⟩ ⟨caps⟩,_,_,_,none⟩,⟨none,.defer ⟨.value (.tmp t'),⟨[]⟩,_⟩,_,_,_,none⟩] => if t=t' then (capsOf caps).map fun l => (t,g,l) else none
  | _ => none
def recOps (ops:Array Oper):Option (List Nat) :=
  match ops.toList with
  | [⟨some r1,.call ⟨.builtin .recover,⟨[]⟩,_⟩,_,_,_,none⟩,⟨some r2,.assign (.tmp r3),_,_,_,none⟩] => if r1=r3 then some [r2,r1] else none
  | _ => none
theorem capsOf_eq:∀ {l:List Operand} {is},capsOf l=some is → l=is.map Operand.tmp
  | [],is,h => by simp [capsOf] at h; subst h; rfl
  | x :: r,is,h => by
    cases x with
    | tmp i =>
      simp only [capsOf] at h
      obtain ⟨l,h1,rfl⟩:=map_some h
      simp [capsOf_eq h1]
    | _ => simp [capsOf] at h
theorem dfrOps_eq {ops:Array Oper} {t g caps} (h:dfrOps ops=some (t,g,caps)) :
    ∃ ty1 p1 a1 ts ty2 p2 a2,ops = #[⟨some t,.makeFunc (.func g) ⟨[]⟩ ⟨caps.map Operand.tmp⟩,ty1,p1,a1,none⟩,⟨none,.defer ⟨.value (.tmp t),⟨[]⟩,ts⟩,ty2,p2,a2,none⟩]:=by
  obtain ⟨l⟩:=ops
  unfold dfrOps at h
  simp only at h
  split at h
  case h_2 => cases h
  rename_i t0 g0 caps0 ty1 p1 a1 t1 ts ty2 p2 a2
  split at h
  case isFalse => cases h
  rename_i e
  obtain ⟨l2,h1,h2⟩:=map_some h
  simp only [Prod.mk.injEq] at h2
  obtain ⟨rfl,rfl,rfl⟩:=h2
  subst e
  rw [capsOf_eq h1]
  exact ⟨_,_,_,_,_,_,_,rfl⟩
theorem recOps_eq {ops:Array Oper} {rs} (h:recOps ops=some rs) :
    ∃ r1 r2 ts ty1 p1 a1 ty2 p2 a2,rs=[r2,r1] ∧ ops = #[⟨some r1,.call ⟨.builtin .recover,⟨[]⟩,ts⟩,ty1,p1,a1,none⟩,⟨some r2,.assign (.tmp r1),ty2,p2,a2,none⟩]:=by
  obtain ⟨l⟩:=ops
  unfold recOps at h
  simp only at h
  split at h
  case h_2 => cases h
  rename_i r1 ts ty1 p1 a1 r2 r3 ty2 p2 a2
  split at h
  case isFalse => cases h
  rename_i e
  subst e
  cases h
  exact ⟨_,_,_,_,_,_,_,_,_,rfl,rfl⟩
structure GrdOK (P:Program) (f:FuncId) (fn:AFn) (gd:Grd):Prop where
  out:∃ (F:Func) (code:Code) (k:Nat) (ops:Array Oper) (id:Nat),P.funcs[f]? = some F ∧ F.body=some code ∧ F.ntmps=fn.ntmps ∧ F.results.toList=fn.results ∧ (F.name == "runtime.NumGoroutine")=false ∧
    (flat code)[k]? = some (.region id ops false) ∧ dfrOps ops=some (gd.t,gd.g,gd.caps) ∧ eraseCs fn.dyn ((flat code).take k)=some gd.pre ∧ eraseCs fn.dyn ((flat code).drop (k + 1))=some gd.post
  cls:∃ (G:Func) (code:Code) (ops:Array Oper) (id:Nat) (rest:List Code),P.funcs[gd.g]? = some G ∧ G.body=some code ∧ G.ntmps=gd.gfn.ntmps ∧ G.results.toList=[] ∧ (G.name == "runtime.NumGoroutine")=false ∧
    flat code=.region id ops false :: rest ∧ recOps ops=some gd.rs ∧ eraseCs gd.gfn.dyn rest=some gd.gpost
theorem fin_sound {P E} (O:EnvOK P E) {base c n t h r h'} {fn:AFn} {F:Func} {tmps:Array Value} (H:HR base c) (hh:c.h=h) (Fr:FR c n t tmps) (hr:F.results.toList=fn.results) (e:finA E fn (some (.ret,⟨t,h⟩))=some (r,h')) :
    c.h=h' ∧ ∃ u,(results F tmps).run P c.w=.ok u c.w ∧ ResR c r (.returned u):=by
  simp only [finA] at e
  split at e
  case h_2 => cases e
  rename_i vs hvs
  cases e
  rw [← hh,← hr] at hvs
  obtain ⟨u,u1,u2⟩:=results_sound O H Fr hvs
  exact ⟨hh,u,u1,u,rfl,u2⟩
theorem dfr_sound {P E} (O:EnvOK P E) (D:DrawSound P E) {run:RunF} (R:RunOK P E run) {n:Nat} {base:Nat} {c:Cx} {f fn gd} (K:GrdOK P f fn gd) {v:AV} {cv:List AV} {vals:List Value} {h:Heap} {w0 h3}
    (H:HR base c) (hb:base ≤ c.w.heap.size) (G:GOK E c) (hh:c.h=h) (hv:RVs c cv vals) (hvp:v.pure=true) (u u':FrameMode) (val:Value) (hval:RV c v val)
    (hrec:∀ (c₀:Frame) (cs:List Frame),c₀.mode=u → (recoverD (c₀ :: cs)=some (val,{ c₀ with mode:=u' } :: cs)) ∨ (recoverD (c₀ :: cs)=none ∧ val=.nilIface ∧ u'=u))
    (e:dfrA E run n gd v cv h=some (.ret w0,h3)) :
    (callFunc gd.g ⟨vals⟩).run P c.w=.ok (.enter gd.g ⟨vals⟩) c.w ∧ CallsD P gd.g ⟨vals⟩ u c.w fun e' u2 w' => (∃ w,e'=.returned w) ∧ u2=u' ∧ ∃ c',c'.w=w' ∧ c'.h=h3 ∧ HR base c' ∧ Ext base c c':=by
  obtain ⟨Gf,gcode,gops,gid,grest,g1,g2,g3,g4,g5,g6,g7,g8⟩:=K.cls
  unfold dfrA at e
  rw [← hh] at e
  obtain ⟨hl,H0,hv0,G0,pur,r0,hf,hrun,fin⟩:=lendA_sound (E:=E) H (dd_nodup _) e hv
  split at hrun
  case isFalse => cases hrun
  rename_i hcnd
  obtain ⟨c1,c2,c3⟩:=hcnd
  generalize hks:dd (reach c.h 3 (AV.keysL cv))=ks at *
  have hr0:r0=.ret (.tup []) ∧ ∃ ex s,aCodes E (site gd.gfn run) (dcall run) n 1 gd.gfn gd.gpost ⟨gd.rs.map (fun r => (r,v)) ++ frame0 (AV.rnL (inK ks) cv) 0,hl⟩=some (ex,s) ∧ (ex=.normal ∨ ex=.ret) ∧ s.h=hf:=by
    split at hrun
    · rename_i s hs; cases hrun; exact ⟨rfl,_,_,hs,.inl rfl,rfl⟩
    · rename_i s hs; cases hrun; exact ⟨rfl,_,_,hs,.inr rfl,rfl⟩
    · cases hrun
  obtain ⟨rfl,ex,s,hs,hex,hsf⟩:=hr0
  refine ⟨run_enter g1 (by rw [g2]; rfl) g5,callsD_of_wpS g1 g2 fun c₀ cs hu => ?_⟩
  obtain ⟨r1,r2,ts,ty1,p1,a1,ty2,p2,a2,hrs,rfl⟩:=recOps_eq g7
  rw [hrs] at hs c3
  simp only [List.all_cons,List.all_nil,Bool.and_true,Bool.and_eq_true,decide_eq_true_eq] at c3
  obtain ⟨b2,b1⟩:=c3
  -- behind the recovery
  let Q:Exit → Act → List Frame → World → Prop:=bodyPostS P Gf c₀ cs fun e' u2 w' => (∃ w,e'=.returned w) ∧ u2=u' ∧ ∃ c',c'.w=w' ∧ c'.h=h3 ∧ HR base c' ∧ Ext base c c'
  have hFR0:=frame0_FR hv0 (n:=gd.gfn.ntmps) c2
  have hval0:=pur v val hval hvp
  let a0:Act:={ tmps:=(⟨vals⟩:Array Value) ++ Array.replicate (Gf.ntmps - (⟨vals⟩:Array Value).size) undef,defers:=[] }
  have tail:∀ a:Act,a.defers=[] → FR (lentC c ks hl) gd.gfn.ntmps ((r2,v) :: (r1,v) :: frame0 (AV.rnL (inK ks) cv) 0) a.tmps → wpSL P Q grest a ({ c₀ with mode:=u' } :: cs) c.w:=by
    intro a had hFR
    refine wpSL_of_wpL (wpL_mono ?_ (aCodes_sound O D (site_ok R gd.gfn) (dcall_ok R) (dcall_cp run) (base:=base) (fuel:=n) (lvl:=1) (fn:=gd.gfn) grest gd.gpost g8 _ ex s (by simpa using hs) (lentC c ks hl) a H0 hb (G0 G) rfl hFR had))
    rintro e' a' w' ⟨c3,rfl,q2,q3,q4,q5,q6,q7⟩
    have hres:∃ u3,(results Gf a'.tmps).run P c3.w=.ok u3 c3.w ∧ RV c3 (.tup []) u3:=by
      have:resL E s.t c3.h Gf.results.toList=some []:=by rw [g4]; rfl
      exact results_sound O q3 q5 this
    obtain ⟨u3,y1,y2⟩:=hres
    obtain ⟨c',z1,z2,z3,z4,z5⟩:=fin c3 (q2.trans hsf) q3 q4 (.returned u3) ⟨u3,rfl,y2⟩
    have good:a'.defers=[] ∧ ∃ u4,{ c₀ with mode:=u' } :: cs = { c₀ with mode:=u4 } :: cs ∧ ∃ v4,(results Gf a'.tmps).run P c3.w=.ok v4 c3.w ∧ ((∃ w,(Ending.returned v4)=.returned w) ∧ u4=u' ∧ ∃ c',c'.w=c3.w ∧ c'.h=h3 ∧ HR base c' ∧ Ext base c c') :=
      ⟨q6,u',rfl,u3,y1,⟨u3,rfl⟩,rfl,c',z1,z2,z3,z4⟩
    rcases hex with rfl | rfl
    · obtain rfl:=q7; exact good
    · obtain rfl:=q7; exact good
  have hput:∀ x:Value,RV (lentC c ks hl) v x → FR (lentC c ks hl) gd.gfn.ntmps ((r2,v) :: (r1,v) :: frame0 (AV.rnL (inK ks) cv) 0) ((a0.put (some r1) x).put (some r2) x).tmps:=by
    intro x hx
    have F1:FR (lentC c ks hl) gd.gfn.ntmps ((r1,v) :: frame0 (AV.rnL (inK ks) cv) 0) (a0.put (some r1) x).tmps:=by
      refine FR.put (t:=frame0 (AV.rnL (inK ks) cv) 0) (a:=a0) (d:=some r1) (v:=v) ?_ (by simp [putT,b1]) hx
      show FR _ _ _ ((⟨vals⟩:Array Value) ++ Array.replicate (Gf.ntmps - (⟨vals⟩:Array Value).size) undef)
      rw [g3]; exact hFR0
    exact FR.put (t:=(r1,v) :: frame0 (AV.rnL (inK ks) cv) 0) (a:=a0.put (some r1) x) F1 (d:=some r2) (v:=v) (by simp [putT,b2]) hx
  have heval:∀ x:Value,(a0.put (some r1) x).eval (.tmp r1)=x:=by
    intro x
    have hsz:r1 < a0.tmps.size:=by
      have:=hFR0.1
      show r1 < ((⟨vals⟩:Array Value) ++ Array.replicate (Gf.ntmps - (⟨vals⟩:Array Value).size) undef).size
      rw [g3,this]; exact b1
    simp [Act.eval,Act.put,Array.getD,hsz]
  have body:wpSL P Q (flat gcode) a0 (c₀ :: cs) c.w:=by
    rw [g6]
    show (Code.region gid _ false).wpS P (Exit.thenS (wpSL P Q grest) Q) a0 (c₀ :: cs) c.w
    refine wpS_region ?_
    show wpOpsS P _ _ [0,1] a0 (c₀ :: cs) c.w
    have hex0:∀ (ρ:Operand → Value) (w:World),(execOp ρ ⟨some r1,.call ⟨.builtin .recover,⟨[]⟩,ts⟩,ty1,p1,a1,none⟩).run P w=.ok .recover w:=by
      intro ρ w
      simp [execOp,resolve,invoke,builtin]
    have step2:∀ (x:Value),RV (lentC c ks hl) v x → wpOpsS P #[⟨some r1,.call ⟨.builtin .recover,⟨[]⟩,ts⟩,ty1,p1,a1,none⟩,⟨some r2,.assign (.tmp r1),ty2,p2,a2,none⟩] (Exit.thenS (wpSL P Q grest) Q) [1] (a0.put (some r1) x) ({ c₀ with mode:=u' } :: cs) c.w:=by
      intro x hx
      have e2:(execOp (a0.put (some r1) x).eval ⟨some r2,.assign (.tmp r1),ty2,p2,a2,none⟩).run P c.w=.ok (.value x) c.w:=by
        simp [execOp,heval x]
      simp only [wpOpsS,List.getElem?_toArray,List.getElem?_cons_succ,List.getElem?_cons_zero,Region.wanted,if_true,e2,Oper.upon]
      exact tail _ (by rw [put_defers,put_defers]) (hput x hx)
    simp only [wpOpsS,List.getElem?_toArray,List.getElem?_cons_succ,List.getElem?_cons_zero,Region.wanted,if_true,hex0]
    rcases hrec c₀ cs hu with hr | ⟨hr,hvn,huu⟩
    · rw [hr]
      have:=step2 val hval0
      simp only [wpOpsS,List.getElem?_toArray,List.getElem?_cons_succ,List.getElem?_cons_zero,Region.wanted,if_true] at this
      exact this
    · rw [hr]
      subst hvn
      have hc0:({ c₀ with mode:=u' }:Frame)=c₀:=by rw [huu,← hu]
      have:=step2 .nilIface hval0
      rw [hc0] at this
      simp only [wpOpsS,List.getElem?_toArray,List.getElem?_cons_succ,List.getElem?_cons_zero,Region.wanted,if_true] at this
      exact this
  have:=wpS_flat gcode (r:=[]) (Q:=Q) (a:=a0) (cs:=c₀ :: cs) (w:=c.w) (by simpa using body)
  refine wpS_mono this fun e' a' cs' w' hq => ?_
  by_cases he:e'=.normal
  · subst he; exact hq
  · rwa [thenS_other he] at hq
structure FnsOK (P:Program) (E:Env):Prop where
  fn:∀ f fn,E.fn f=some fn → E.grd f=none → FnOK P f fn
  grd:∀ f fn gd,E.fn f=some fn → E.grd f=some gd → GrdOK P f fn gd
  prim:∀ f p,E.prim f=some p → PrimOK P E f p
theorem grd_sound {P E} (O:EnvOK P E) (D:DrawSound P E) {run:RunF} (R:RunOK P E run) {n:Nat} {base:Nat} {c:Cx} {f fn gd} (K:GrdOK P f fn gd) {args:List AV} {vals:List Value} {r h'}
    (H:HR base c) (hb:base ≤ c.w.heap.size) (G:GOK E c) (hv:RVs c args vals) (hlen:args.length ≤ fn.ntmps)
    (e:grdP E run n fn gd (aCodes E (site fn run) (dcall run) n 1 fn gd.pre ⟨frame0 args 0,c.h⟩)=some (r,h')) :
    ∃ g vals',(callFunc f ⟨vals⟩).run P c.w=.ok (.enter g vals') c.w ∧ Calls P g vals' c.w fun e w' => ∃ c',c'.w=w' ∧ c'.h=h' ∧ HR base c' ∧ ExtL 1 base c c' ∧ ResR c' r e:=by
  obtain ⟨F,code,k,ops,id,f1,f2,f3,f4,f5,f6,f7,f8,f9⟩:=K.out
  refine ⟨f,⟨vals⟩,run_enter f1 (by rw [f2]; rfl) f5,?_⟩
  let RR:Ending → World → Prop:=fun e w' => ∃ c',c'.w=w' ∧ c'.h=h' ∧ HR base c' ∧ ExtL 1 base c c' ∧ ResR c' r e
  refine calls_of_wp_defers f1 f2 (R:=RR) (wp_flat' ?_)
  have hFR:=frame0_FR hv (n:=fn.ntmps) hlen
  have hsplit:flat code=(flat code).take k ++ (.region id ops false :: (flat code).drop (k + 1)):=by
    obtain ⟨hk,hk2⟩:=List.getElem?_eq_some_iff.1 f6
    rw [← hk2,← List.drop_eq_getElem_cons hk,List.take_append_drop]
  rw [hsplit]
  refine wpL_app ?_
  cases hp:aCodes E (site fn run) (dcall run) n 1 fn gd.pre ⟨frame0 args 0,c.h⟩ with
  | none => rw [hp] at e; simp [grdP] at e
  | some p =>
  obtain ⟨ex,s⟩:=p
  rw [hp] at e
  rw [show F.ntmps=fn.ntmps from f3]
  refine wpL_mono ?_ (aCodes_sound O D (site_ok R fn) (dcall_ok R) (dcall_cp run) (base:=base) (fuel:=n) (lvl:=1) (fn:=fn) _ gd.pre f8 ⟨frame0 args 0,c.h⟩ ex s hp c
    { tmps:=(⟨vals⟩:Array Value) ++ Array.replicate (fn.ntmps - (⟨vals⟩:Array Value).size) undef,defers:=[] } H hb G rfl hFR rfl)
  rintro ee a' w' ⟨c1,rfl,q2,q3,q4,q5,q6,q7⟩
  cases ex with
  | exit i => simp [grdP] at e
  | ret =>
    obtain rfl:=q7
    simp only [grdP] at e
    obtain ⟨z1,u,z2,z3⟩:=fin_sound O q3 q2 q5 f4 e
    show Leaves P F a'.tmps RR a'.defers .returning c1.w
    rw [q6]
    exact ⟨u,z2,c1,rfl,z1,q3,q4,z3⟩
  | panic ch =>
    obtain ⟨chain,rfl,z1,z2⟩:=q7
    simp only [grdP,finA,Option.some.injEq,Prod.mk.injEq] at e
    obtain ⟨rfl,rfl⟩:=e
    show Leaves P F a'.tmps RR a'.defers (.panicking chain) c1.w
    rw [q6]
    exact ⟨c1,rfl,q2,q3,q4,chain,rfl,z1,z2⟩
  | normal =>
    obtain rfl:=q7
    simp only [grdP] at e
    split at e
    case h_2 => cases e
    rename_i cv hcv
    split at e
    case h_2 => cases e
    rename_i t1 hput
    split at e
    case isFalse => cases e
    rename_i hlow
    obtain ⟨ty1,p1,a1,ts,ty2,p2,a2,rfl⟩:=dfrOps_eq f7
    have G1:=G.extL q4 H
    have hb1:base ≤ c1.w.heap.size:=Nat.le_trans hb q4.size
    have hcvr:RVs c1 cv ((gd.caps.map Operand.tmp).map a'.eval):=opdL_sound G1 q5 hcv
    let capv:Array Value:=⟨(gd.caps.map Operand.tmp).map a'.eval⟩
    let clo:Value:=.func (.func gd.g) #[] capv
    have hclo:RV c1 (.fn gd.g [] cv) clo:=.fn gd.g [] cv [] _ .nil hcvr
    let d:Deferred:={ target:=.fn (.func gd.g) capv,args:=#[] ++ #[] }
    let a2':Act:=({ (a'.put (some gd.t) clo) with defers:=d :: (a'.put (some gd.t) clo).defers }:Act).put none undef
    show Exit.then (wpL P (bodyPostD P F RR) (.region id _ false :: (flat code).drop (k + 1))) (bodyPostD P F RR) .normal a' c1.w
    show (Code.region id _ false).wp P (Exit.then (wpL P (bodyPostD P F RR) ((flat code).drop (k + 1))) (bodyPostD P F RR)) a' c1.w
    refine wp_region ?_
    show wpOps P _ _ [0,1] a' c1.w
    have ht:gd.t < fn.ntmps:=by
      unfold putT at hput
      simp only at hput
      split at hput
      · assumption
      · cases hput
    have hF1:FR c1 fn.ntmps t1 (a'.put (some gd.t) clo).tmps:=q5.put hput hclo
    have heval:(a'.put (some gd.t) clo).eval (.tmp gd.t)=clo:=by
      have:gd.t < a'.tmps.size:=by rw [q5.1]; exact ht
      simp [Act.eval,Act.put,Array.getD,this]
    have e1:(execOp a'.eval ⟨some gd.t,.makeFunc (.func gd.g) ⟨[]⟩ ⟨gd.caps.map Operand.tmp⟩,ty1,p1,a1,none⟩).run P c1.w=.ok (.value clo) c1.w:=by
      simp [execOp,Instr.makeFunc,clo,capv]
    have e2:(execOp (a'.put (some gd.t) clo).eval ⟨none,.defer ⟨.value (.tmp gd.t),⟨[]⟩,ts⟩,ty2,p2,a2,none⟩).run P c1.w=.ok (.defer d) c1.w:=by
      simp only [execOp,resolve,heval]
      simp [clo,Deferred.ofValue,d]
    simp only [wpOps,List.getElem?_toArray,List.getElem?_cons_zero,List.getElem?_cons_succ,Region.wanted,if_true]
    left
    unfold Oper.wp
    rw [e1]
    simp only [Oper.upon]
    left
    rw [e2]
    show wpL P (bodyPostD P F RR) ((flat code).drop (k + 1)) a2' c1.w
    have ha2t:a2'.tmps=(a'.put (some gd.t) clo).tmps:=rfl
    have ha2d:a2'.defers=[d]:=by
      show d :: (a'.put (some gd.t) clo).defers=[d]
      rw [put_defers,q6]
    cases hq:aCodes E (site fn run) (dcall run) n 2 fn gd.post ⟨t1,s.h⟩ with
    | none => rw [hq] at e; simp [grdR] at e
    | some p2 =>
    obtain ⟨ex2,s2⟩:=p2
    rw [hq] at e
    refine wpL_mono ?_ (aCodes_sound O D (site_ok R fn) (dcall_ok R) (dcall_cp run) (base:=base) (fuel:=n) (lvl:=2) (fn:=fn) _ gd.post f9 ⟨t1,s.h⟩ ex2 s2 hq c1 a2' q3 hb1 G1 q2 hF1 ha2d)
    rintro ee a3 w3 ⟨c2,rfl,y2,y3,y4,y5,y6,y7⟩
    have y41:ExtL 1 base c1 c2:=⟨y4.os,y4.tape,y4.output,y4.size,y4.frame,y4.rd,fun k hk => y4.vk k (by omega),y4.newrd,y4.newmut⟩
    have X2:ExtL 1 base c c2:=q4.trans y41
    have hcap2:RVs c2 cv capv.toList:=hcvr.mono (c:=c1) (c':=c2) (fun b hb => y4.same q3 hb) fun k hk hvk => y4.vk k (by
      have:=List.all_eq_true.1 hlow k hk
      simpa using this) hvk
    have G2:=G1.extL y41 q3
    have hb2:base ≤ c2.w.heap.size:=Nat.le_trans hb1 y4.size
    -- what the closure has captured is of the pre's things: it is handed on as long as it is there
    have fin2:∀ (v:AV) (val:Value) (u u':FrameMode),grdE E fn s2.t (dfrA E run n gd v cv s2.h)=some (r,h') → v.pure=true → RV c2 v val → u ≠ .run → settle u'=.returning →
        (∀ (c₀:Frame) (cs:List Frame),c₀.mode=u → (recoverD (c₀ :: cs)=some (val,{ c₀ with mode:=u' } :: cs)) ∨ (recoverD (c₀ :: cs)=none ∧ val=.nilIface ∧ u'=u)) →
        Leaves P F a3.tmps RR a3.defers u c2.w:=by
      intro v val u u' hg hvp hval hu hset hrec
      cases hd:dfrA E run n gd v cv s2.h with
      | none => rw [hd] at hg; simp [grdE] at hg
      | some p3 =>
      obtain ⟨r3,h3⟩:=p3
      rw [hd] at hg
      cases r3 with
      | panic _ => simp [grdE] at hg
      | ret w0 =>
      simp only [grdE] at hg
      obtain ⟨k1,k2⟩:=dfr_sound O D R K y3 hb2 G2 y2 hcap2 hvp u u' val hval hrec hd
      rw [y6]
      refine ⟨hu,.func gd.g,capv,gd.g,capv,rfl,?_,?_⟩
      · show (invoke (.fn (.func gd.g) capv) (#[] ++ #[])).run P c2.w=_
        simp only [invoke,Array.append_empty,Array.empty_append]
        exact k1
      · intro c₀ cs hm
        obtain ⟨e',u2,w',fr,⟨⟨w,rfl⟩,rfl,c4,rfl,x2,x3,x4⟩,hc,hk,hg2⟩:=k2 c₀ cs hm
        refine ⟨_,_,_,fr,?_,hc,hk,hg2⟩
        show Leaves P F a3.tmps RR [] (settle u2) c4.w
        rw [hset]
        have F4:FR c4 fn.ntmps s2.t a3.tmps:=y5.ext x4 y3
        obtain ⟨z1,u4,z2,z3⟩:=fin_sound O x3 x2 F4 f4 hg
        exact ⟨u4,z2,c4,rfl,z1,x3,X2.trans (x4.toL 1),z3⟩
    have fin3:grdE E fn s2.t (dfrA E run n gd .nili cv s2.h)=some (r,h') → Leaves P F a3.tmps RR a3.defers .returning c2.w:=fun hg =>
      fin2 .nili .nilIface .returning .returning hg rfl .nili (by simp) rfl fun c₀ cs hm => .inr ⟨by simp [recoverD,hm],rfl,rfl⟩
    cases ex2 with
    | exit i => simp [grdR] at e
    | normal => obtain rfl:=y7; exact fin3 e
    | ret => obtain rfl:=y7; exact fin3 e
    | panic ch =>
      obtain ⟨chain,rfl,z1,z2⟩:=y7
      have hch:∃ v,ch=[v]:=by
        cases ch with
        | nil => simp [grdR] at e
        | cons v l =>
          cases l with
          | nil => exact ⟨v,rfl⟩
          | cons x l => simp [grdR] at e
      obtain ⟨v,rfl⟩:=hch
      simp only [grdR] at e
      split at e
      case isFalse => cases e
      rename_i hvp
      obtain ⟨p,rfl⟩:∃ p,chain=[p]:=by
        have:=z1.length
        cases chain with
        | nil => simp at this
        | cons p l =>
          cases l with
          | nil => exact ⟨p,rfl⟩
          | cons x l => simp at this
      obtain ⟨z3,z4⟩:=z2 p (by simp)
      have hval:RV c2 v p.v:=by
        cases z1 with
        | cons _ _ _ _ h1 _ => exact h1
      obtain ⟨pv,pr,pg⟩:=p
      simp only at z3 z4 hval
      subst z3 z4
      exact fin2 v pv (.panicking [⟨pv,false,false⟩]) (.panicking [⟨pv,true,false⟩]) e hvp hval (by simp) rfl fun c₀ cs hm => .inl (by simp [recoverD,hm])
theorem aRun_sound {P E} (O:EnvOK P E) (Fs:FnsOK P E) (D:DrawSound P E):∀ n,RunOK P E (aRun E n)
  | 0 => fun base c f args vals r h' h => by simp [aRun] at h
  | n + 1 => fun base c f args vals r h' h H hb G hv => by
    simp only [aRun] at h
    split at h
    · rename_i p hpr
      split at h
      case isFalse => cases h
      rename_i hp
      cases hpv:p args with
      | none => rw [hpv] at h; cases h
      | some u =>
        rw [hpv] at h
        simp only [Option.bind_some] at h
        split at h
        case isFalse => cases h
        rename_i hu
        cases h
        obtain ⟨⟨F,f1,f2,f3⟩,hcall⟩:=Fs.prim f p hpr
        refine ⟨f,⟨vals⟩,run_enter f1 f2 f3,(hcall args u hpv hp hu base c vals H hb G hv).mono ?_⟩
        rintro e w' ⟨c',a1,a2,a3,a4,a5⟩
        exact ⟨c',a1,a2,a3,a4.toL 1,a5⟩
    · split at h
      · cases h
      rename_i fn hfn
      split at h
      case isFalse => cases h
      rename_i hlen
      split at h
      · rename_i hg
        obtain ⟨F,code,f1,f2,f3,f4,f5,f6⟩:=(Fs.fn f fn hfn hg).out
        refine ⟨f,⟨vals⟩,run_enter f1 (by rw [f2]; rfl) f6,?_⟩
        have hFR:=frame0_FR hv (n:=fn.ntmps) hlen
        refine calls_of_wp f1 f2 ?_
        rw [f4]
        cases hc:aCode E (site fn (aRun E n)) (dcall (aRun E n)) n 1 fn fn.body ⟨frame0 args 0,c.h⟩ with
        | none => rw [hc] at h; simp [finA] at h
        | some q =>
        obtain ⟨ex,s⟩:=q
        rw [hc] at h
        have R:=aRun_sound O Fs D n
        refine wp_mono (aCode_sound O D (site_ok R fn) (dcall_ok R) (dcall_cp _) (Ds:=[]) (L:=1) (base:=base) rfl code fn.body f3 ⟨frame0 args 0,c.h⟩ ex s hc c
          { tmps:=(⟨vals⟩:Array Value) ++ Array.replicate (fn.ntmps - (⟨vals⟩:Array Value).size) undef,defers:=[] } H hb G rfl hFR rfl) ?_
        rintro e a' w' ⟨c1,rfl,q2,q3,q4,q5,q6,q7⟩
        have good:finA E fn (some (.ret,s))=some (r,h') → a'.defers=[] ∧ ∃ u,(results F a'.tmps).run P c1.w=.ok u c1.w ∧ ∃ c',c'.w=c1.w ∧ c'.h=h' ∧ HR base c' ∧ ExtL 1 base c c' ∧ ResR c' r (.returned u):=fun hf => by
          obtain ⟨z1,u,z2,z3⟩:=fin_sound O q3 q2 q5 f5 hf
          exact ⟨q6,u,z2,c1,rfl,z1,q3,q4,z3⟩
        cases ex with
        | exit i => simp [finA] at h
        | normal => obtain rfl:=q7; exact good h
        | ret => obtain rfl:=q7; exact good h
        | panic ch =>
          obtain ⟨chain,rfl,z1,z2⟩:=q7
          simp only [finA,Option.some.injEq,Prod.mk.injEq] at h
          obtain ⟨rfl,rfl⟩:=h
          exact ⟨q6,c1,rfl,q2,q3,q4,chain,rfl,z1,z2⟩
      · rename_i gd hg
        exact grd_sound O D (aRun_sound O Fs D n) (Fs.grd f fn gd hfn hg) H hb G hv hlen h
theorem aCall_sound {P E} (O:EnvOK P E) (Fs:FnsOK P E) (D:DrawSound P E) (n:Nat):CallOK P E (aCall E n):=sealed_ok (aRun_sound O Fs D n)
end Ab
/- An operation looks at its operands alone. Own work, no conditions. -/
set_option linter.unusedVariables false
set_option linter.unusedSimpArgs false
namespace Ab
open Go
def applyS (h:Heap):List (Key × AObj) → Heap
  | [] => h
  | (k,o) :: r => applyS (setK h k o) r
def lookU:List (Key × AObj) → Key → Option AObj
  | [],_ => none
  | (k,o) :: r,q => match lookU r q with
    | some x => some x
    | none => if k=q then some o else none
theorem applyS_app:∀ (a b:List (Key × AObj)) (h:Heap),applyS h (a ++ b)=applyS (applyS h a) b
  | [],b,h => rfl
  | (k,o) :: r,b,h => by simp only [List.cons_append,applyS,applyS_app r b]
theorem lookK_applyS:∀ (us:List (Key × AObj)) (h:Heap) (q:Key),lookK (applyS h us) q=match lookU us q with | some o => some o | none => lookK h q
  | [],h,q => rfl
  | (k,o) :: r,h,q => by
    simp only [applyS,lookU,lookK_applyS r]
    cases lookU r q with
    | some x => rfl
    | none =>
      simp only [lookK_setK]
      by_cases e:k=q <;> simp [e]
theorem lookU_none {us:List (Key × AObj)} {q:Key} (h:∀ p ∈ us,p.1 ≠ q):lookU us q=none:=by
  induction us with
  | nil => rfl
  | cons p r ih =>
    obtain ⟨k,o⟩:=p
    simp only [lookU,ih fun p hp => h p (by simp [hp])]
    rw [if_neg (h (k,o) (by simp))]
theorem keysL_mem {l:List AV} {x:AV} (h:x ∈ l):∀ k ∈ x.keys,k ∈ AV.keysL l:=by
  induction l with
  | nil => cases h
  | cons y l ih =>
    intro k hk
    simp only [AV.keysL,List.mem_append]
    rcases List.mem_cons.1 h with rfl | h
    · exact .inl hk
    · exact .inr (ih h k hk)
theorem keysOp_mem {E t o x v} (hx:x ∈ o.op.operands.toList) (hv:opd E t x=some v):∀ k ∈ v.keys,k ∈ keysOp E t o :=
  keysL_mem (List.mem_filterMap.2 ⟨x,hx,hv⟩)
structure Agree (E:Env) (lvl:Nat) (t:Fr) (h:Heap) (t2:Fr) (h2:Heap) (o:Oper):Prop where
  opd:∀ x ∈ o.op.operands.toList,Ab.opd E t2 x=Ab.opd E t x
  heap:clsOf o.op=0 ∨ clsOf o.op=2 ∨ ∀ k ∈ keysOp E t o,lookK h2 k=lookK h k
  gen:clsOf o.op < 2 ∨ genOf h2 lvl (o.dst.getD 0)=genOf h lvl (o.dst.getD 0)
theorem opdL_agree {E t t2}:∀ {l:List Operand},(∀ x ∈ l,opd E t2 x=opd E t x) → opdL E t2 l=opdL E t l
  | [],_ => rfl
  | x :: r,h => by
    have h2:=opdL_agree (l:=r) fun y hy => h y (by simp [hy])
    simp only [opdL,h x (by simp),h2]
theorem readC_agree {h h2 p n} (ha:∀ k ∈ p.keys,lookK h2 k=lookK h k):readC h2 p n=readC h p n:=by
  unfold readC
  split
  · rename_i key off; rw [ha key (by simp [AV.keys])]
  · rfl
  · rfl
theorem conts_agree {h h2 x} (ha:∀ k ∈ x.keys,lookK h2 k=lookK h k):conts h2 x=conts h x:=by
  unfold conts
  split
  · rfl
  · rename_i key off len _; rw [ha key (by simp [AV.keys])]
  · rfl
  · rfl
theorem writeC_agree {h:Heap} {key off vs h'} (hw:writeC h key off vs=some h'):∃ o',h'=setK h key o' ∧ ∀ h2:Heap,lookK h2 key=lookK h key → writeC h2 key off vs=some (setK h2 key o'):=by
  unfold writeC at hw
  split at hw
  case h_2 => cases hw
  rename_i o ho
  split at hw
  case isFalse => cases hw
  rename_i hc
  cases hw
  refine ⟨_,rfl,fun h2 h2k => ?_⟩
  unfold writeC
  rw [h2k,ho]
  simp only
  rw [if_pos hc]
theorem sliceA_agree {E t x lo hi mx h h2} (ha:∀ k ∈ x.keys,lookK h2 k=lookK h k):sliceA E t x lo hi mx h2=sliceA E t x lo hi mx h:=by
  unfold sliceA
  split
  · rfl
  · rename_i key off len cap _; rw [ha key (by simp [AV.keys])]
  · rename_i key off _; rw [ha key (by simp [AV.keys])]
  · rfl
  · rfl
  · rfl
theorem convA_agree {E src dst x h h2} (ha:∀ k ∈ x.keys,lookK h2 k=lookK h k):convA E src dst x h2=convA E src dst x h:=by
  unfold convA
  split
  · rfl
  · split
    · split
      · rfl
      · rw [conts_agree ha]
    · rfl
  · rfl
  · rfl
theorem newK_eq {h:Heap} {lvl slot cs ex sz ag h' k'} (hn:newK h lvl slot cs ex sz ag=(h',k')):k'=(lvl,slot,genOf h lvl slot) ∧ h'=setK h k' ⟨cs,true,true,ex,sz,ag⟩ ∧ ∀ h2:Heap,genOf h2 lvl slot=genOf h lvl slot → newK h2 lvl slot cs ex sz ag=(setK h2 k' ⟨cs,true,true,ex,sz,ag⟩,k'):=by
  unfold newK at hn
  cases hn
  exact ⟨rfl,rfl,fun h2 hg => by unfold newK; rw [hg]⟩
theorem genOf_setK (h:Heap) (k:Key) (o:AObj) (l s:Nat) (hk:(lookK h k).isSome=true ∨ ¬ (k.1=l ∧ k.2.1=s)):genOf (setK h k o) l s=genOf h l s:=by
  induction h with
  | nil =>
    obtain ⟨k1,k2,k3⟩:=k
    rcases hk with hk | hk
    · simp [lookK] at hk
    · simp only [setK,genOf]; rw [if_neg hk]
  | cons p r ih =>
    obtain ⟨⟨a,b,g⟩,o'⟩:=p
    simp only [setK]
    split
    · rename_i e; subst e; rfl
    · rename_i e
      simp only [genOf]
      have:genOf (setK r k o) l s=genOf r l s:=ih (by
        rcases hk with hk | hk
        · simp only [lookK,e,if_false] at hk; exact .inl hk
        · exact .inr hk)
      rw [this]
end Ab
/- An operation looks at its operands alone. Own work, no conditions. -/
set_option linter.unusedVariables false
set_option linter.unusedSimpArgs false
namespace Ab
open Go
def withH:OpR → Heap → OpR
  | .val v _,h => .val v h
  | .skip _,h => .skip h
  | r,_ => r
def heapR:OpR → Heap → Heap
  | .val _ h,_ => h
  | .skip h,_ => h
  | _,h => h
def Loc (E:Env) (lvl:Nat) (t:Fr) (h:Heap) (o:Oper) (r:OpR):Prop :=
  ∃ us:List (Key × AObj),(∀ p ∈ us,(p.1 ∈ keysOp E t o ∧ clsOf o.op=3 ∧ (lookK h p.1).isSome=true) ∨ (p.1=(lvl,o.dst.getD 0,genOf h lvl (o.dst.getD 0)) ∧ 2 ≤ clsOf o.op ∧ (∀ ty p x,o.op ≠ .store ty p x))) ∧
    heapR r h=applyS h us ∧ ∀ t2 h2,Agree E lvl t h t2 h2 o → aOp E lvl t2 h2 o=some (withH r (applyS h2 us))
theorem loc0 {E lvl t h o v} (f:∀ t2 h2,Agree E lvl t h t2 h2 o → aOp E lvl t2 h2 o=some (.val v h2)):Loc E lvl t h o (.val v h) :=
  ⟨[],by simp,rfl,f⟩
theorem locNew {E lvl t h o v h' k' cs ex sz ag} (hn:newK h lvl (o.dst.getD 0) cs ex sz ag=(h',k')) (hc:2 ≤ clsOf o.op) (hs:∀ ty p x,o.op ≠ .store ty p x)
    (f:∀ t2 h2,Agree E lvl t h t2 h2 o → newK h2 lvl (o.dst.getD 0) cs ex sz ag=(setK h2 k' ⟨cs,true,true,ex,sz,ag⟩,k') → aOp E lvl t2 h2 o=some (.val v (setK h2 k' ⟨cs,true,true,ex,sz,ag⟩))):Loc E lvl t h o (.val v h'):=by
  obtain ⟨e1,e2,e3⟩:=newK_eq hn
  refine ⟨[(k',⟨cs,true,true,ex,sz,ag⟩)],fun p hp => ?_,e2,fun t2 h2 ag2 => f t2 h2 ag2 (e3 h2 (ag2.gen.resolve_left (by omega)))⟩
  simp at hp; subst hp
  exact .inr ⟨e1,hc,hs⟩
theorem appendA_loc {E lvl slot h t s x r} (hr:appendA E lvl slot h t s x=some r):∃ (v:AV) (us:List (Key × AObj)),r=.val v (applyS h us) ∧ (∀ p ∈ us,(p.1 ∈ s.keys ∧ (lookK h p.1).isSome=true) ∨ p.1=(lvl,slot,genOf h lvl slot)) ∧
    (∀ h2,(∀ k ∈ s.keys ++ x.keys,lookK h2 k=lookK h k) → genOf h2 lvl slot=genOf h lvl slot → appendA E lvl slot h2 t s x=some (.val v (applyS h2 us))) ∧ ∀ k off len,v=.ref k off len none → ∃ pre ob,us=pre ++ [(k,ob)]:=by
  unfold appendA at hr
  split at hr
  case h_2 => cases hr
  rename_i e _ _ _ _ ht
  split at hr
  case h_2 => cases hr
  rename_i τ ys n he hc
  have hc2:∀ h2,(∀ k ∈ s.keys ++ x.keys,lookK h2 k=lookK h k) → conts h2 x=some (ys,n):=fun h2 ha => (conts_agree fun k hk => ha k (by simp [hk])).trans hc
  split at hr
  case isFalse => cases hr
  rename_i hcnd
  split at hr
  · rename_i f xs cap
    split at hr
    · cases hr
    rename_i cp
    split at hr
    · rename_i hroom
      split at hr
      case isFalse => cases hr
      rename_i hn0
      cases hr
      refine ⟨_,[],rfl,by simp,fun h2 ha hg => ?_,fun _ _ _ e9 => by cases e9⟩
      unfold appendA
      simp only [ht,he,hc2 h2 ha]
      rw [if_pos hcnd,if_pos hroom,if_pos hn0]; rfl
    · rename_i hroom
      split at hr
      case isFalse => cases hr
      rename_i hcnd2
      simp only [Option.some.injEq] at hr
      cases hn:newK h lvl slot (xs.flatMap AV.cells ++ ys) false τ.size τ.d.isAgg with
      | mk h' k' =>
      rw [hn] at hr
      subst hr
      obtain ⟨e1,e2,e3⟩:=newK_eq hn
      refine ⟨_,[(k',⟨xs.flatMap AV.cells ++ ys,true,true,false,τ.size,τ.d.isAgg⟩)],by rw [e2]; rfl,fun p hp => by simp at hp; subst hp; exact .inr e1,fun h2 ha hg => ?_,fun _ _ _ e9 => by cases e9; exact ⟨[],_,rfl⟩⟩
      unfold appendA
      simp only [ht,he,hc2 h2 ha]
      rw [if_pos hcnd,if_neg hroom,if_pos hcnd2,e3 h2 hg]; rfl
  · rename_i k off len cap
    split at hr
    case h_2 => cases hr
    rename_i o hk
    have hk2:∀ h2,(∀ q ∈ (AV.ref k off len cap).keys ++ x.keys,lookK h2 q=lookK h q) → lookK h2 k=some o:=fun h2 ha => (ha k (by simp [AV.keys])).trans hk
    split at hr
    case isFalse => cases hr
    rename_i hcnd2
    split at hr
    · rename_i cp
      split at hr
      · rename_i hroom
        split at hr
        case h_2 => cases hr
        rename_i h1 hw
        cases hr
        obtain ⟨o',e1,e2⟩:=writeC_agree hw
        refine ⟨_,[(k,o')],by rw [e1]; rfl,fun p hp => by simp at hp; subst hp; exact .inl ⟨by simp [AV.keys],by simp [hk]⟩,fun h2 ha hg => ?_,fun _ _ _ e9 => by cases e9⟩
        unfold appendA
        simp only [ht,he,hc2 h2 ha,hk2 h2 ha]
        rw [if_pos hcnd,if_pos hcnd2,if_pos hroom,e2 h2 (ha k (by simp [AV.keys]))]; rfl
      · rename_i hroom
        split at hr
        case isFalse => cases hr
        rename_i hcnd3
        simp only [Option.some.injEq] at hr
        cases hn:newK h lvl slot ((o.cells.drop off).take (len * o.esz) ++ ys) false τ.size τ.d.isAgg with
        | mk h' k' =>
        rw [hn] at hr
        subst hr
        obtain ⟨e1,e2,e3⟩:=newK_eq hn
        refine ⟨_,[(k',⟨(o.cells.drop off).take (len * o.esz) ++ ys,true,true,false,τ.size,τ.d.isAgg⟩)],by rw [e2]; rfl,fun p hp => by simp at hp; subst hp; exact .inr e1,fun h2 ha hg => ?_,fun _ _ _ e9 => by cases e9; exact ⟨[],_,rfl⟩⟩
        unfold appendA
        simp only [ht,he,hc2 h2 ha,hk2 h2 ha]
        rw [if_pos hcnd,if_pos hcnd2,if_neg hroom,if_pos hcnd3,e3 h2 hg]; rfl
    · split at hr
      case isFalse => cases hr
      rename_i hcnd3
      simp only [Option.some.injEq] at hr
      cases hn:newK (setK h k { o with live:=false }) lvl slot (o.cells ++ ys) false o.esz o.eagg with
      | mk h' k' =>
      rw [hn] at hr
      subst hr
      obtain ⟨e1,e2,e3⟩:=newK_eq hn
      have hg0:genOf (setK h k { o with live:=false }) lvl slot=genOf h lvl slot:=genOf_setK _ _ _ _ _ (.inl (by simp [hk]))
      refine ⟨_,[(k,{ o with live:=false }),(k',⟨o.cells ++ ys,true,true,false,o.esz,o.eagg⟩)],by rw [e2]; rfl,fun p hp => ?_,fun h2 ha hg => ?_,fun _ _ _ e9 => by cases e9; exact ⟨[_],_,rfl⟩⟩
      · simp at hp
        rcases hp with rfl | rfl
        · exact .inl ⟨by simp [AV.keys],by simp [hk]⟩
        · exact .inr (by rw [e1,hg0])
      · have hk22:=hk2 h2 ha
        have hg2:genOf (setK h2 k { o with live:=false }) lvl slot=genOf (setK h k { o with live:=false }) lvl slot:=by
          rw [hg0,genOf_setK _ _ _ _ _ (.inl (by simp [hk22])),hg]
        unfold appendA
        simp only [ht,he,hc2 h2 ha,hk22]
        rw [if_pos hcnd,if_pos hcnd2,if_pos hcnd3,e3 _ hg2]; rfl
  · cases hr
theorem copyA_loc {E h t d s r} (hr:copyA E h t d s=some r):∃ (v:AV) (us:List (Key × AObj)),r=.val v (applyS h us) ∧ (∀ p ∈ us,p.1 ∈ d.keys ∧ (lookK h p.1).isSome=true) ∧
    (∀ h2,(∀ k ∈ d.keys ++ s.keys,lookK h2 k=lookK h k) → copyA E h2 t d s=some (.val v (applyS h2 us))) ∧ ∀ k off len c,v ≠ .ref k off len c:=by
  unfold copyA at hr
  split at hr
  case h_2 => cases hr
  rename_i e _ _ _ _ ht
  split at hr
  · rename_i τ ys n k off len cap he hc
    split at hr
    case isFalse => cases hr
    rename_i hyl
    simp only at hr
    split at hr
    case h_2 => cases hr
    rename_i h1 hw
    cases hr
    obtain ⟨o',e1,e2⟩:=writeC_agree hw
    refine ⟨_,[(k,o')],by rw [e1]; rfl,fun p hp => ?_,fun h2 ha => ?_,fun _ _ _ _ e9 => by cases e9⟩
    · simp at hp; subst hp
      refine ⟨by simp [AV.keys],?_⟩
      unfold writeC at hw
      split at hw
      · rename_i ho; simp [ho]
      · cases hw
    · unfold copyA
      simp only [ht,he,(conts_agree fun k hk => ha k (by simp [hk])).trans hc]
      rw [if_pos hyl]
      rw [e2 h2 (ha k (by simp [AV.keys]))]; rfl
  · rename_i τ ys n f cap he hc
    cases hr
    refine ⟨_,[],rfl,by simp,fun h2 ha => ?_,fun _ _ _ _ e9 => by cases e9⟩
    unfold copyA
    simp only [ht,he,(conts_agree fun k hk => ha k (by simp [hk])).trans hc]; rfl
  · cases hr
theorem aOp_loc {E lvl t h o r} (hr:aOp E lvl t h o=some r):Loc E lvl t h o r:=by
  have hr0:=hr
  unfold aOp at hr
  split at hr
  · rename_i x e
    obtain ⟨v,h1,rfl⟩:=map_some hr
    refine loc0 fun t2 h2 ag => ?_
    have ho:=ag.opd x (by simp [e,Op.operands])
    simp only [aOp,e,ho,h1]; rfl
  · rename_i x e
    obtain ⟨v,h1,rfl⟩:=map_some hr
    refine loc0 fun t2 h2 ag => ?_
    have ho:=ag.opd x (by simp [e,Op.operands])
    simp only [aOp,e,ho,h1]; rfl
  · rename_i cc x y e
    split at hr
    case h_2 => cases hr
    rename_i b hc
    obtain ⟨v,h1,rfl⟩:=map_some hr
    refine loc0 fun t2 h2 ag => ?_
    have o1:=ag.opd cc (by simp [e,Op.operands])
    have o2:=ag.opd x (by simp [e,Op.operands])
    have o3:=ag.opd y (by simp [e,Op.operands])
    simp only [aOp,e,o1,hc]
    cases b <;> simp only [Bool.false_eq_true,if_false,if_true,o2,o3] at h1 ⊢ <;> rw [h1] <;> rfl
  · rename_i ty e
    split at hr
    case h_2 => cases hr
    rename_i τ hτ
    cases hr
    refine locNew rfl (by simp [e,clsOf]) (by simp [e]) fun t2 h2 ag hn => ?_
    simp only [aOp,e,hτ,hn]
  · rename_i ty x e
    split at hr
    case h_2 => cases hr
    rename_i τ v hτ hv
    split at hr
    case isFalse => cases hr
    rename_i hs
    cases hr
    refine locNew rfl (by simp [e,clsOf]) (by simp [e]) fun t2 h2 ag hn => ?_
    have o1:=ag.opd x (by simp [e,Op.operands])
    simp only [aOp,e,hτ,o1,hv]
    rw [if_pos hs,hn]
  · rename_i ty parts e
    have hag:∀ {t2 h2},Agree E lvl t h t2 h2 o → opdL E t2 (parts.toList.map (·.2))=opdL E t (parts.toList.map (·.2)):=fun ag => opdL_agree fun x hx => ag.opd x (by simpa [e,Op.operands] using hx)
    split at hr
    · rename_i fs _ _ zero _ vs hτ hv
      split at hr
      · cases hr
      rename_i hall
      obtain ⟨cs,h1,rfl⟩:=map_some hr
      refine loc0 fun t2 h2 ag => ?_
      simp only [aOp,e,hτ,hag ag,hv]
      rw [if_neg hall,h1]; rfl
    · rename_i n e' _ _ zero _ vs hτ hv
      split at hr
      case h_2 => cases hr
      rename_i τ he
      obtain ⟨cs,h1,rfl⟩:=map_some hr
      refine loc0 fun t2 h2 ag => ?_
      simp only [aOp,e,hτ,hag ag,hv,he]
      rw [h1]; rfl
    · cases hr
  · rename_i ty len parts e
    have hag:∀ {t2 h2},Agree E lvl t h t2 h2 o → opdL E t2 (parts.toList.map (·.2))=opdL E t (parts.toList.map (·.2)):=fun ag => opdL_agree fun x hx => ag.opd x (by simpa [e,Op.operands] using hx)
    split at hr
    case h_2 => cases hr
    rename_i e' _ _ _ _ vs hτ hv
    split at hr
    case h_2 => cases hr
    rename_i τ he
    split at hr
    case isFalse => cases hr
    rename_i hcnd
    split at hr
    case h_2 => cases hr
    rename_i cs hf
    split at hr
    · rename_i hz
      cases hr
      obtain ⟨n1,n2,n3⟩:=newK_eq (h:=h) (lvl:=lvl) (slot:=o.dst.getD 0) (cs:=cs) (ex:=true) (sz:=τ.size) (ag:=τ.d.isAgg) rfl
      refine ⟨[((newK h lvl (o.dst.getD 0) cs true τ.size τ.d.isAgg).2,⟨cs,true,true,true,τ.size,τ.d.isAgg⟩),((newK h lvl (o.dst.getD 0) cs true τ.size τ.d.isAgg).2,⟨cs,true,false,true,τ.size,τ.d.isAgg⟩)],fun p hp => ?_,rfl,fun t2 h2 ag2 => ?_⟩
      · have:p.1=(newK h lvl (o.dst.getD 0) cs true τ.size τ.d.isAgg).2:=by
          rcases List.mem_cons.1 hp with rfl | hp
          · rfl
          · rcases List.mem_cons.1 hp with rfl | hp
            · rfl
            · cases hp
        exact .inr ⟨this,by simp [e,clsOf],by simp [e]⟩
      · have hn:=n3 h2 (ag2.gen.resolve_left (by simp [e,clsOf]))
        simp only [aOp,e,hτ,hag ag2,hv,he]
        rw [if_pos hcnd]
        simp only [hf]
        rw [if_pos hz]
        simp only [hn]
        rfl
    rename_i hz
    cases hr
    refine locNew rfl (by simp [e,clsOf]) (by simp [e]) fun t2 h2 ag hn => ?_
    simp only [aOp,e,hτ,hag ag,hv,he]
    rw [if_pos hcnd]
    simp only [hf]
    rw [if_neg hz]
    simp only [hn]
  · rename_i ty p e
    split at hr
    case h_2 => cases hr
    rename_i τ pv hτ hp
    split at hr
    case h_2 => cases hr
    rename_i cs hrd
    obtain ⟨v,h1,rfl⟩:=map_some hr
    refine loc0 fun t2 h2 ag => ?_
    have o1:=ag.opd p (by simp [e,Op.operands])
    have hh:∀ k ∈ pv.keys,lookK h2 k=lookK h k:=fun k hk => by
      rcases ag.heap with g | g | g
      · simp [e,clsOf] at g
      · simp [e,clsOf] at g
      · exact g k (keysOp_mem (by simp [e,Op.operands]) hp k hk)
    simp only [aOp,e,hτ,o1,hp,readC_agree hh,hrd,h1]; rfl
  · rename_i ty p x e
    split at hr
    case h_2 => cases hr
    rename_i τ key off v hτ hp hx
    split at hr
    case isFalse => cases hr
    rename_i hl
    obtain ⟨h',h1,rfl⟩:=map_some hr
    obtain ⟨o',e1,e2⟩:=writeC_agree h1
    refine ⟨[(key,o')],fun q hq => ?_,by rw [e1]; rfl,fun t2 h2 ag => ?_⟩
    · simp at hq; subst hq
      refine .inl ⟨keysOp_mem (x:=p) (by simp [e,Op.operands]) hp key (by simp [AV.keys]),by simp [e,clsOf],?_⟩
      unfold writeC at h1
      split at h1
      · rename_i ho; simp [ho]
      · cases h1
    · have o1:=ag.opd p (by simp [e,Op.operands])
      have o2:=ag.opd x (by simp [e,Op.operands])
      have hh:lookK h2 key=lookK h key:=by
        rcases ag.heap with g | g | g
        · simp [e,clsOf] at g
        · simp [e,clsOf] at g
        · exact g key (keysOp_mem (x:=p) (by simp [e,Op.operands]) hp key (by simp [AV.keys]))
      simp only [aOp,e,hτ,o1,o2,hp,hx]
      rw [if_pos hl,e2 h2 hh]; rfl
  · rename_i x e
    split at hr
    · rename_i k off hx
      cases hr
      refine loc0 fun t2 h2 ag => ?_
      have o1:=ag.opd x (by simp [e,Op.operands])
      simp only [aOp,e,o1,hx]
    · rename_i cs hx
      cases hr
      refine loc0 fun t2 h2 ag => ?_
      have o1:=ag.opd x (by simp [e,Op.operands])
      simp only [aOp,e,o1,hx]
    · rename_i f fa fb hx
      cases hr
      refine loc0 fun t2 h2 ag => ?_
      have o1:=ag.opd x (by simp [e,Op.operands])
      simp only [aOp,e,o1,hx]
    · cases hr
  · rename_i op ty x y _ e
    split at hr
    case h_2 => cases hr
    rename_i u v hx hy
    obtain ⟨r',h1,rfl⟩:=map_some hr
    refine loc0 fun t2 h2 ag => ?_
    have o1:=ag.opd x (by simp [e,Op.operands])
    have o2:=ag.opd y (by simp [e,Op.operands])
    simp only [aOp,e,o1,o2,hx,hy,h1]; rfl
  · rename_i op _ x e
    split at hr
    case h_2 => cases hr
    rename_i u hx
    obtain ⟨r',h1,rfl⟩:=map_some hr
    refine loc0 fun t2 h2 ag => ?_
    have o1:=ag.opd x (by simp [e,Op.operands])
    simp only [aOp,e,o1,hx,h1]; rfl
  · rename_i src dst x e
    split at hr
    case h_2 => cases hr
    rename_i u hx
    split at hr
    · rename_i e' _ _ _ _ l hs hd
      split at hr
      case h_2 => cases hr
      rename_i he
      cases hr
      refine locNew rfl (by simp [e,clsOf]) (by simp [e]) fun t2 h2 ag hn => ?_
      have o1:=ag.opd x (by simp [e,Op.operands])
      simp only [aOp,e,o1,hx,hs,hd,he,hn]
    · rename_i u _ _ _ hno
      obtain ⟨r',h1,rfl⟩:=map_some hr
      refine loc0 fun t2 h2 ag => ?_
      have o1:=ag.opd x (by simp [e,Op.operands])
      have hh:∀ k ∈ u.keys,lookK h2 k=lookK h k:=fun k hk => by
        rcases ag.heap with g | g | g
        · simp [e,clsOf] at g
        · simp [e,clsOf] at g
        · exact g k (keysOp_mem (by simp [e,Op.operands]) hx k hk)
      simp only [aOp,e,o1,hx]
      rw [convA_agree hh,h1]; rfl
  · rename_i ty x e
    split at hr
    · cases hr
    · rename_i τ v hni hτ hx
      cases hr
      refine loc0 fun t2 h2 ag => ?_
      have o1:=ag.opd x (by simp [e,Op.operands])
      obtain ⟨d,sz,by_,z,m⟩:=τ
      simp only [aOp,e,o1,hx,hτ]
    · cases hr
  · rename_i f first cap e
    split at hr
    case h_2 => cases hr
    rename_i u v hx hy
    cases hr
    refine loc0 fun t2 h2 ag => ?_
    have o1:=opdL_agree (E:=E) (t:=t) (t2:=t2) (l:=first.toList) fun x hx => ag.opd x (by simp [e,Op.operands] at hx ⊢; exact .inl hx)
    have o2:=opdL_agree (E:=E) (t:=t) (t2:=t2) (l:=cap.toList) fun x hx => ag.opd x (by simp [e,Op.operands] at hx ⊢; exact .inr hx)
    simp only [aOp,e,o1,o2,hx,hy]
  · rename_i ty l cc e
    split at hr
    case h_2 => cases hr
    rename_i e' _ _ _ _ l' c' hτ hl hcv
    split at hr
    case h_2 => cases hr
    rename_i τ he
    split at hr
    case isFalse => cases hr
    rename_i hcnd
    split at hr
    · rename_i hz
      cases hr
      obtain ⟨cs,hcs⟩:∃ cs,(List.replicate c'.toNat τ.zero).flatten=cs:=⟨_,rfl⟩
      obtain ⟨n1,n2,n3⟩:=newK_eq (h:=h) (lvl:=lvl) (slot:=o.dst.getD 0) (cs:=(List.replicate c'.toNat τ.zero).flatten) (ex:=true) (sz:=τ.size) (ag:=τ.d.isAgg) rfl
      refine ⟨[((newK h lvl (o.dst.getD 0) ((List.replicate c'.toNat τ.zero).flatten) true τ.size τ.d.isAgg).2,⟨(List.replicate c'.toNat τ.zero).flatten,true,true,true,τ.size,τ.d.isAgg⟩),((newK h lvl (o.dst.getD 0) ((List.replicate c'.toNat τ.zero).flatten) true τ.size τ.d.isAgg).2,⟨(List.replicate c'.toNat τ.zero).flatten,true,false,true,τ.size,τ.d.isAgg⟩)],fun p hp => ?_,rfl,fun t2 h2 ag2 => ?_⟩
      · have:p.1=(newK h lvl (o.dst.getD 0) ((List.replicate c'.toNat τ.zero).flatten) true τ.size τ.d.isAgg).2:=by
          rcases List.mem_cons.1 hp with rfl | hp
          · rfl
          · rcases List.mem_cons.1 hp with rfl | hp
            · rfl
            · cases hp
        exact .inr ⟨this,by simp [e,clsOf],by simp [e]⟩
      · have hn:=n3 h2 (ag2.gen.resolve_left (by simp [e,clsOf]))
        have o1:=ag2.opd l (by simp [e,Op.operands])
        have o2:=ag2.opd cc (by simp [e,Op.operands])
        simp only [aOp,e,o1,o2,hl,hcv,hτ,he]
        rw [if_pos hcnd,if_pos hz]
        simp only [hn]
        rfl
    rename_i hz
    cases hr
    refine locNew rfl (by simp [e,clsOf]) (by simp [e]) fun t2 h2 ag hn => ?_
    have o1:=ag.opd l (by simp [e,Op.operands])
    have o2:=ag.opd cc (by simp [e,Op.operands])
    simp only [aOp,e,o1,o2,hl,hcv,hτ,he]
    rw [if_pos hcnd,if_neg hz,hn]
  · rename_i ty x lo hi mx e
    split at hr
    case h_2 => cases hr
    rename_i xv l hh m hx hl hhh hm
    obtain ⟨r',h1,rfl⟩:=map_some hr
    refine loc0 fun t2 h2 ag => ?_
    have o1:=ag.opd x (by simp [e,Op.operands])
    have oo:∀ (q:Option Operand),(∀ y,q=some y → y ∈ o.op.operands.toList) → (q.map (opd E t2))=q.map (opd E t):=by
      intro q hq
      cases q with
      | none => rfl
      | some y => simp [ag.opd y (hq y rfl)]
    have o2:=oo lo (fun y hy => by simp [e,Op.operands,hy])
    have o3:=oo hi (fun y hy => by simp [e,Op.operands,hy])
    have o4:=oo mx (fun y hy => by simp [e,Op.operands,hy])
    have hk:∀ k ∈ xv.keys,lookK h2 k=lookK h k:=fun k hk => by
      rcases ag.heap with g | g | g
      · simp [e,clsOf] at g
      · simp [e,clsOf] at g
      · exact g k (keysOp_mem (x:=x) (by simp [e,Op.operands]) hx k hk)
    simp only [aOp,e,o1,o2,o3,o4,hx,hl,hhh,hm,sliceA_agree hk,h1]; rfl
  · rename_i ty x f e
    split at hr
    case h_2 => cases hr
    rename_i u hx
    obtain ⟨r',h1,rfl⟩:=map_some hr
    refine loc0 fun t2 h2 ag => ?_
    have o1:=ag.opd x (by simp [e,Op.operands])
    simp only [aOp,e,o1,hx,h1]; rfl
  · rename_i ty x f e
    split at hr
    case h_2 => cases hr
    rename_i u hx
    obtain ⟨r',h1,rfl⟩:=map_some hr
    refine loc0 fun t2 h2 ag => ?_
    have o1:=ag.opd x (by simp [e,Op.operands])
    simp only [aOp,e,o1,hx,h1]; rfl
  · rename_i ty x i e
    split at hr
    case h_2 => cases hr
    rename_i u v hx hi
    obtain ⟨r',h1,rfl⟩:=map_some hr
    refine loc0 fun t2 h2 ag => ?_
    have o1:=ag.opd x (by simp [e,Op.operands])
    have o2:=ag.opd i (by simp [e,Op.operands])
    have h2':indexAddrA E ty u v h2=indexAddrA E ty u v h:=rfl
    simp only [aOp,e,o1,o2,hx,hi,h2',h1]; rfl
  · rename_i ty x i e
    split at hr
    case h_2 => cases hr
    rename_i u v hx hi
    obtain ⟨r',h1,rfl⟩:=map_some hr
    refine loc0 fun t2 h2 ag => ?_
    have o1:=ag.opd x (by simp [e,Op.operands])
    have o2:=ag.opd i (by simp [e,Op.operands])
    simp only [aOp,e,o1,o2,hx,hi,h1]; rfl
  · rename_i x i e
    split at hr
    case h_2 => cases hr
    rename_i vs hx
    obtain ⟨r',h1,rfl⟩:=map_some hr
    refine loc0 fun t2 h2 ag => ?_
    have o1:=ag.opd x (by simp [e,Op.operands])
    simp only [aOp,e,o1,hx,h1]; rfl
  · rename_i cl e
    have hags:∀ {t2 h2},Agree E lvl t h t2 h2 o → opdL E t2 cl.args.toList=opdL E t cl.args.toList:=fun ag => opdL_agree fun x hx => ag.opd x (by simp [e,Op.operands,Call.operands] at hx ⊢; exact .inr hx)
    split at hr
    · rename_i f args hcal hargs
      split at hr
      case h_2 => cases hr
      rename_i g first cap hf
      unfold callA at hr
      split at hr
      · rename_i hx
        obtain ⟨v,h1,rfl⟩:=map_some hr
        refine loc0 fun t2 h2 ag => ?_
        have o1:=ag.opd f (by simp [e,Op.operands,Call.operands,hcal])
        simp only [aOp,e,hcal,hags ag,hargs,o1,hf]
        unfold callA
        rw [if_pos hx,h1]; rfl
      · rename_i hx
        cases hr
        refine ⟨[],by simp,rfl,fun t2 h2 ag => ?_⟩
        have o1:=ag.opd f (by simp [e,Op.operands,Call.operands,hcal])
        simp only [aOp,e,hcal,hags ag,hargs,o1,hf]
        unfold callA
        rw [if_neg hx]; rfl
    · rename_i b args hcal hargs
      have hmemk:∀ (i:Nat) v,args[i]? = some v → ∀ k ∈ v.keys,k ∈ keysOp E t o:=by
        have gen:∀ (l:List Operand) (vs:List AV),opdL E t l=some vs → ∀ (i:Nat) v,vs[i]? = some v → ∃ x ∈ l,opd E t x=some v:=by
          intro l
          induction l with
          | nil => intro vs h; simp [opdL] at h; subst h; simp
          | cons x l ih =>
            intro vs h i v hi
            simp only [opdL] at h
            split at h
            · rename_i y ys e1 e2
              cases h
              cases i with
              | zero => simp at hi; subst hi; exact ⟨x,by simp,e1⟩
              | succ i => obtain ⟨z,z1,z2⟩:=ih ys e2 i v (by simpa using hi); exact ⟨z,by simp [z1],z2⟩
            · cases h
        intro i v hi
        obtain ⟨x,x1,x2⟩:=gen _ _ hargs i v hi
        exact keysOp_mem (by simp [e,Op.operands,Call.operands] at x1 ⊢; exact .inr x1) x2
      obtain ⟨r0,hr0,hz⟩:=frzB_some hr
      have fin:∀ us:List (Key × AObj),(∀ p ∈ us,(p.1 ∈ keysOp E t o ∧ clsOf o.op=3 ∧ (lookK h p.1).isSome=true) ∨ (p.1=(lvl,o.dst.getD 0,genOf h lvl (o.dst.getD 0)) ∧ 2 ≤ clsOf o.op ∧ (∀ ty p x,o.op ≠ .store ty p x))) →
          heapR r0 h=applyS h us → (∀ t2 h2,Agree E lvl t h t2 h2 o → builtinA E lvl (o.dst.getD 0) h2 b cl.argTypes.toList args=some (withH r0 (applyS h2 us))) → (∀ k len h',r0=.val (.ref k 0 len none) h' → ∃ pre ob,us=pre ++ [(k,ob)]) → Loc E lvl t h o r:=by
        intro us f1 f2 f3 f4
        rcases hz with ⟨rfl,hf⟩ | ⟨hf,k,len,ob,h',rfl,z1,z2,z3,z4,z5,rfl⟩
        · refine ⟨us,f1,f2,fun t2 h2 ag => ?_⟩
          simp only [aOp,e,hcal,hags ag,hargs,f3 t2 h2 ag]
          rcases hf with hf | hf
          · rw [hf]; rfl
          · unfold frzB
            split
            · simp only [Option.bind_some]
              unfold frzV at hf ⊢
              cases r with
              | val v g =>
                simp only [withH]
                split
                · rename_i k len hh e5
                  simp only [OpR.val.injEq] at e5
                  obtain ⟨rfl,rfl⟩:=e5
                  simp only at hf
                  split at hf
                  · split at hf
                    · cases hf
                    · cases hf
                  · cases hf
                · rfl
              | _ => rfl
            · rfl
        · obtain ⟨pre,ob2,rfl⟩:=f4 k len h' rfl
          have hob:ob2=ob:=by
            have q:=f2
            simp only [heapR] at q
            rw [q,applyS_app] at z1
            simp only [applyS,lookK_setK,if_true,Option.some.injEq] at z1
            exact z1
          subst hob
          refine ⟨pre ++ [(k,ob2),(k,{ ob2 with mt:=false })],fun p hp => ?_,?_,fun t2 h2 ag => ?_⟩
          · rcases List.mem_append.1 hp with hp | hp
            · exact f1 p (List.mem_append.2 (.inl hp))
            · have q:=f1 (k,ob2) (by simp)
              rcases List.mem_cons.1 hp with rfl | hp
              · exact q
              · rcases List.mem_cons.1 hp with rfl | hp
                · exact q
                · cases hp
          · simp only [heapR] at f2 ⊢
            rw [f2,applyS_app,applyS_app]; rfl
          · simp only [aOp,e,hcal,hags ag,hargs,f3 t2 h2 ag]
            rw [hf]
            unfold frzB
            simp only [if_true,Option.bind_some,withH]
            unfold frzV
            simp only
            have l2:lookK (applyS h2 (pre ++ [(k,ob2)])) k=some ob2:=by rw [applyS_app]; simp only [applyS,lookK_setK,if_true]
            rw [l2]
            simp only
            rw [if_pos ⟨z2,z3,z4,z5⟩,applyS_app,applyS_app]; rfl
      have same:∀ v,(∀ k len,v ≠ .ref k 0 len none) → builtinA E lvl (o.dst.getD 0) h b cl.argTypes.toList args=some (.val v h) → (∀ h2,builtinA E lvl (o.dst.getD 0) h2 b cl.argTypes.toList args=some (.val v h2)) → r0=.val v h → Loc E lvl t h o r:=by
        intro v hv _ hf hrr
        subst hrr
        exact fin [] (by simp) rfl (fun t2 h2 ag => hf h2) (fun k len h' e9 => by cases e9; exact absurd rfl (hv k len))
      have hr1:=hr0
      clear hr
      have hr:=hr0
      unfold builtinA at hr
      split at hr
      · rename_i t1 _ x _ ets
        split at hr <;> first | (cases hr; rename_i ht; exact same _ (fun _ _ q => by cases q) hr1 (fun h2 => by unfold builtinA; simp only [ets,ht]) rfl) | (cases hr; done)
      · rename_i t1 _ x _ ets
        split at hr <;> first | (cases hr; rename_i ht; exact same _ (fun _ _ q => by cases q) hr1 (fun h2 => by unfold builtinA; simp only [ets,ht]) rfl) | (cases hr; done)
      · rename_i t1 t2' _ s x tl ets
        have hcls:clsOf o.op=3:=by rw [e]; cases cl; simp_all [clsOf]
        have app:appendA E lvl (o.dst.getD 0) h t1 s x=some r0 → (∀ h2,builtinA E lvl (o.dst.getD 0) h2 .append cl.argTypes.toList (s :: x :: tl)=appendA E lvl (o.dst.getD 0) h2 t1 s x) → Loc E lvl t h o r:=by
          intro ha hb
          obtain ⟨v,us,rfl,u2,u3,u4⟩:=appendA_loc ha
          refine fin us (fun p hp => ?_) rfl (fun t2 h2 ag => ?_) (fun k len h' e9 => by cases e9; exact u4 k 0 len rfl)
          · rcases u2 p hp with g | g
            · exact .inl ⟨hmemk 0 s rfl _ g.1,hcls,g.2⟩
            · exact .inr ⟨g,by omega,by simp [e]⟩
          · have hg:=ag.gen.resolve_left (by omega)
            have hh:∀ k ∈ keysOp E t o,lookK h2 k=lookK h k:=by
              rcases ag.heap with g | g | g
              · omega
              · omega
              · exact g
            refine (hb h2).trans ?_
            exact u3 h2 (fun k hk => by
              rcases List.mem_append.1 hk with hk | hk
              · exact hh k (hmemk 0 s rfl k hk)
              · exact hh k (hmemk 1 x rfl k hk)) hg
        split at hr
        · rename_i ht2; exact app hr (fun h2 => by unfold builtinA; simp only [ets,ht2])
        · rename_i ht2; exact app hr (fun h2 => by unfold builtinA; simp only [ets,ht2])
        · cases hr
      · rename_i t1 _ d s _ ets
        have hcls:clsOf o.op=3:=by rw [e]; cases cl; simp_all [clsOf]
        obtain ⟨v,us,rfl,u2,u3,u4⟩:=copyA_loc hr
        refine fin us (fun p hp => .inl ⟨hmemk 0 d rfl _ (u2 p hp).1,hcls,(u2 p hp).2⟩) rfl (fun t2 h2 ag => ?_) (fun k len h' e9 => by cases e9; exact absurd rfl (u4 k 0 len none))
        have hh:∀ k ∈ keysOp E t o,lookK h2 k=lookK h k:=by
          rcases ag.heap with g | g | g
          · omega
          · omega
          · exact g
        unfold builtinA
        simp only [ets]
        exact u3 h2 (fun k hk => by
          rcases List.mem_append.1 hk with hk | hk
          · exact hh k (hmemk 0 d rfl k hk)
          · exact hh k (hmemk 1 s rfl k hk))
      · rename_i k a k' b
        split at hr
        case isFalse => cases hr
        rename_i hk
        cases hr
        exact same _ (fun _ _ q => by cases q) hr1 (fun h2 => by unfold builtinA; simp only; rw [if_pos hk]) rfl
      · rename_i k a k' b
        split at hr
        case isFalse => cases hr
        rename_i hk
        cases hr
        exact same _ (fun _ _ q => by cases q) hr1 (fun h2 => by unfold builtinA; simp only; rw [if_pos hk]) rfl
      · cases hr
    · cases hr
  · rename_i x _ u e
    split at hr
    · cases hr
    · rename_i τ ty v hni hτ hx
      split at hr
      case isFalse => cases hr
      rename_i htu
      cases hr
      refine loc0 fun t2 h2 ag => ?_
      have ho:=ag.opd x (by simp [e,Op.operands])
      subst htu
      obtain ⟨d,b1,b2,b3,b4⟩:=τ
      simp only [aOp,e,ho,hx,hτ]
      cases d with
      | iface _ => exact absurd rfl (hni _ _ _ _ _)
      | _ => simp
    · cases hr
  · rename_i x e
    split at hr
    case h_2 => cases hr
    rename_i ty v hx
    cases hr
    refine ⟨[],by simp,rfl,fun t2 h2 ag => ?_⟩
    have ho:=ag.opd x (by simp [e,Op.operands])
    simp only [aOp,e,ho,hx]; rfl
  · cases hr
end Ab
/- Two operations that have nothing to do with each other change places. Own work, no conditions. -/
set_option linter.unusedVariables false
set_option linter.unusedSimpArgs false
namespace Ab
open Go
theorem genOf_setK' (k:Key) (o:AObj) (l s:Nat):∀ (h:Heap),genOf (setK h k o) l s=if k.1=l ∧ k.2.1=s then max (k.2.2 + 1) (genOf h l s) else genOf h l s
  | [] => by obtain ⟨a,b,g⟩:=k; simp [setK,genOf]
  | ((a,b,g),o') :: r => by
    obtain ⟨a',b',g'⟩:=k
    simp only [setK]
    split
    · rename_i e; cases e
      simp only [genOf]
      split
      · omega
      · rfl
    · simp only [genOf,genOf_setK' (a',b',g') o l s r]
      split <;> split <;> omega
theorem genOf_applyS (l s:Nat):∀ (us:List (Key × AObj)) (h:Heap),genOf (applyS h us) l s=max (genOf us l s) (genOf h l s)
  | [],h => by simp [applyS,genOf]
  | ((a,b,g),o) :: r,h => by
    simp only [applyS,genOf_applyS l s r,genOf_setK',genOf]
    split <;> omega
theorem genOf_le {us:List (Key × AObj)} {h:Heap} {l s:Nat} (hu:∀ p ∈ us,(lookK h p.1).isSome=true ∨ ¬ (p.1.1=l ∧ p.1.2.1=s)):genOf us l s ≤ genOf h l s:=by
  induction us with
  | nil => simp [genOf]
  | cons p r ih =>
    obtain ⟨⟨a,b,g⟩,o⟩:=p
    have:=ih fun p hp => hu p (by simp [hp])
    simp only [genOf]
    split
    · rename_i e
      obtain ⟨rfl,rfl⟩:=e
      rcases hu _ (List.mem_cons_self ..) with h1 | h1
      · obtain ⟨o2,h2⟩:=Option.isSome_iff_exists.1 h1
        have:=genOf_gt h a b g o2 h2
        omega
      · exact absurd ⟨rfl,rfl⟩ h1
    · exact this
theorem appendA_nc {E lvl slot h t s x f args} (hr:appendA E lvl slot h t s x=some (.call f args)):False:=by
  unfold appendA at hr
  repeat' split at hr
  all_goals (first | cases hr | (simp at hr; done))
theorem copyA_nc {E h t d s f args} (hr:copyA E h t d s=some (.call f args)):False:=by
  unfold copyA at hr
  split at hr
  case h_2 => cases hr
  split at hr
  · dsimp only at hr
    split at hr
    · split at hr <;> cases hr
    · cases hr
  · cases hr
  · cases hr
theorem builtinA_nc {E lvl slot h b ts as f args} (hr:builtinA E lvl slot h b ts as=some (.call f args)):False:=by
  unfold builtinA at hr
  repeat' split at hr
  all_goals (first | cases hr | exact appendA_nc hr | exact copyA_nc hr | (obtain ⟨_,_,e⟩:=map_some hr; cases e) | (simp at hr; done))
theorem opdL_keys {E t}:∀ {l:List Operand} {vs},opdL E t l=some vs → ∀ k ∈ AV.keysL vs,∃ x ∈ l,∃ v,opd E t x=some v ∧ k ∈ v.keys
  | [],vs,h,k,hk => by simp only [opdL] at h; cases h; simp [AV.keysL] at hk
  | x :: l,vs,h,k,hk => by
    simp only [opdL] at h
    split at h
    · rename_i y ys e1 e2
      cases h
      simp only [AV.keysL,List.mem_append] at hk
      rcases hk with hk | hk
      · exact ⟨x,by simp,y,e1,hk⟩
      · obtain ⟨z,z1,z2⟩:=opdL_keys e2 k hk
        exact ⟨z,by simp [z1],z2⟩
    · cases h
theorem keysL_app:∀ (a b:List AV),AV.keysL (a ++ b)=AV.keysL a ++ AV.keysL b
  | [],b => rfl
  | x :: a,b => by simp [AV.keysL,keysL_app a b]
theorem aOp_call {E lvl t h o f args} (hr:aOp E lvl t h o=some (.call f args)):clsOf o.op=1 ∧ ∀ k ∈ AV.keysL args,k ∈ keysOp E t o:=by
  cases e:o.op with
  | call c =>
    simp only [aOp,e] at hr
    split at hr
    · rename_i fo as h1 h2
      split at hr
      case h_2 => cases hr
      rename_i g first cap hf
      unfold callA at hr
      split at hr
      · obtain ⟨_,_,e⟩:=map_some hr; cases e
      cases hr
      refine ⟨by obtain ⟨cl,_⟩:=c; cases h1; rfl,fun k hk => ?_⟩
      rw [keysL_app,keysL_app] at hk
      simp only [List.mem_append] at hk
      rcases hk with (hk | hk) | hk
      · exact keysOp_mem (x:=fo) (by simp [e,Op.operands,Call.operands,h1]) hf k (by simp [AV.keys,hk])
      · obtain ⟨x,x1,v,x2,x3⟩:=opdL_keys h2 k hk
        exact keysOp_mem (x:=x) (by simp [e,Op.operands,Call.operands,h1] at x1 ⊢; exact .inr x1) x2 k x3
      · exact keysOp_mem (x:=fo) (by simp [e,Op.operands,Call.operands,h1]) hf k (by simp [AV.keys,hk])
    · obtain ⟨r0,h0,hz⟩:=frzB_some hr
      rcases hz with ⟨rfl,_⟩ | ⟨_,_,_,_,_,_,_,_,_,_,_,e9⟩
      · exact (builtinA_nc h0).elim
      · cases e9
    · cases hr
  | _ =>
    exfalso
    simp only [aOp,e] at hr
    repeat' split at hr
    all_goals (first | (rename_i he; cases he; done) | cases hr | (rename_i he _ _ _; cases he; done) | contradiction | (obtain ⟨_,_,e⟩:=map_some hr; cases e; done) | (simp at hr; done))
def stepD (E:Env) (call:CallF) (lvl n:Nat) (o:Oper) (s:St):Option St :=
  match aOps E call lvl n [o] s with
  | some (.normal,s') => some s'
  | _ => none
theorem aOps_cons {E call lvl n o r s s'}:aOps E call lvl n (o :: r) s=some (.normal,s') ↔ ∃ s1,stepD E call lvl n o s=some s1 ∧ aOps E call lvl n r s1=some (.normal,s'):=by
  unfold stepD
  simp only [aOps]
  cases hw:wantedA s.t o with
  | none => simp
  | some b =>
    cases b with
    | false =>
      cases hp:putT n s.t o.dst (.tup []) with
      | none => simp [hp]
      | some t1 => simp [hp]
    | true =>
      cases ho:aOp E lvl s.t s.h o with
      | none => simp [ho]
      | some q =>
        cases q with
        | val v h => cases hp:putT n s.t o.dst v <;> simp [ho,hp]
        | skip h => cases hp:putT n s.t o.dst (.tup []) <;> simp [ho,hp]
        | panic v => simp [ho]
        | call f args =>
          cases hc:call (o.dst.getD 0) f args s.h with
          | none => simp [ho,hc]
          | some p =>
            obtain ⟨r',h⟩:=p
            cases r' with
            | ret v => cases hp:putT n s.t o.dst v <;> simp [ho,hc,hp]
            | panic ch => simp [ho,hc]
structure AgreeS (E:Env) (lvl:Nat) (s s2:St) (o:Oper):Prop where
  op:Agree E lvl s.t s.h s2.t s2.h o
  guard:∀ d w,o.guard=some (d,w) → lookT s2.t d=lookT s.t d
def Foot (E:Env) (lvl:Nat) (s:St) (o:Oper) (us:List (Key × AObj)):Prop :=
  ∀ p ∈ us,(p.1 ∈ keysOp E s.t o ∧ clsOf o.op=3 ∧ (lookK s.h p.1).isSome=true) ∨ (p.1=(lvl,o.dst.getD 0,genOf s.h lvl (o.dst.getD 0)) ∧ 2 ≤ clsOf o.op)
theorem putT_n {n t t2 d v t'} (h:putT n t d v=some t'):∃ t2',putT n t2 d v=some t2':=by
  unfold putT at h ⊢
  cases d with
  | none => exact ⟨t2,rfl⟩
  | some d =>
    simp only at h ⊢
    split at h
    · rename_i hd; rw [if_pos hd]; exact ⟨_,rfl⟩
    · cases h
theorem putT_look {n t d v t'} (h:putT n t d v=some t') (i:Nat):lookT t' i=if d=some i then some v else lookT t i:=by
  unfold putT at h
  cases d with
  | none => cases h; simp
  | some d =>
    simp only at h
    split at h
    · cases h; rw [lookT_cons]; simp
    · cases h
theorem wanted_agree {t t2:Fr} {o:Oper} (h:∀ d w,o.guard=some (d,w) → lookT t2 d=lookT t d):wantedA t2 o=wantedA t o:=by
  unfold wantedA
  cases e:o.guard with
  | none => rfl
  | some p => obtain ⟨d,w⟩:=p; simp only; rw [h d w e]
theorem step_loc {E call lvl n o s s'} (C:CP call) (h:stepD E call lvl n o s=some s') :
    ∃ (v:AV) (us:List (Key × AObj)),putT n s.t o.dst v=some s'.t ∧ s'.h=applyS s.h us ∧ Foot E lvl s o us ∧
      ∀ s2,AgreeS E lvl s s2 o → ∃ s2',stepD E call lvl n o s2=some s2' ∧ putT n s2.t o.dst v=some s2'.t ∧ s2'.h=applyS s2.h us:=by
  unfold stepD at h
  simp only [aOps] at h
  cases hw:wantedA s.t o with
  | none => rw [hw] at h; simp at h
  | some b =>
    rw [hw] at h
    cases b with
    | false =>
      simp only at h
      cases hp:putT n s.t o.dst (.tup []) with
      | none => rw [hp] at h; simp at h
      | some t1 =>
        rw [hp] at h
        simp only [Option.bind_some,Option.some.injEq] at h
        subst h
        refine ⟨.tup [],[],hp,rfl,(fun p hp => by cases hp),fun s2 ag => ?_⟩
        obtain ⟨t2,h2⟩:=putT_n (t2:=s2.t) hp
        refine ⟨⟨t2,s2.h⟩,?_,h2,rfl⟩
        unfold stepD
        simp only [aOps,wanted_agree ag.guard,hw,h2,Option.bind_some]
    | true =>
      simp only at h
      cases ho:aOp E lvl s.t s.h o with
      | none => rw [ho] at h; simp at h
      | some q =>
        rw [ho] at h
        obtain ⟨us,u1,u2,u3⟩:=aOp_loc ho
        have foot:Foot E lvl s o us:=fun p hp => (u1 p hp).imp id fun g => ⟨g.1,g.2.1⟩
        cases q with
        | panic v => simp at h
        | val v h1 =>
          simp only at h
          cases hp:putT n s.t o.dst v with
          | none => rw [hp] at h; simp at h
          | some t1 =>
            rw [hp] at h
            simp only [Option.bind_some,Option.some.injEq] at h
            subst h
            refine ⟨v,us,hp,u2,foot,fun s2 ag => ?_⟩
            obtain ⟨t2,h2⟩:=putT_n (t2:=s2.t) hp
            refine ⟨⟨t2,applyS s2.h us⟩,?_,h2,rfl⟩
            unfold stepD
            simp only [aOps,wanted_agree ag.guard,hw,u3 s2.t s2.h ag.op,withH,h2,Option.bind_some]
        | skip h1 =>
          simp only at h
          cases hp:putT n s.t o.dst (.tup []) with
          | none => rw [hp] at h; simp at h
          | some t1 =>
            rw [hp] at h
            simp only [Option.bind_some,Option.some.injEq] at h
            subst h
            refine ⟨.tup [],us,hp,u2,foot,fun s2 ag => ?_⟩
            obtain ⟨t2,h2⟩:=putT_n (t2:=s2.t) hp
            refine ⟨⟨t2,applyS s2.h us⟩,?_,h2,rfl⟩
            unfold stepD
            simp only [aOps,wanted_agree ag.guard,hw,u3 s2.t s2.h ag.op,withH,h2,Option.bind_some]
        | call f args =>
          simp only at h
          cases hc:call (o.dst.getD 0) f args s.h with
          | none => rw [hc] at h; simp at h
          | some p =>
            obtain ⟨r',h1⟩:=p
            rw [hc] at h
            cases r' with
            | panic ch => simp at h
            | ret v =>
              simp only at h
              cases hp:putT n s.t o.dst v with
              | none => rw [hp] at h; simp at h
              | some t1 =>
                rw [hp] at h
                simp only [Option.bind_some,Option.some.injEq] at h
                subst h
                obtain ⟨cls,ksub⟩:=aOp_call ho
                obtain ⟨e1,e2⟩:=C _ f args s.h v h1 hc
                refine ⟨v,[],hp,e1,(fun p hp => by cases hp),fun s2 ag => ?_⟩
                obtain ⟨t2,h2⟩:=putT_n (t2:=s2.t) hp
                refine ⟨⟨t2,s2.h⟩,?_,h2,rfl⟩
                have hcall:call (o.dst.getD 0) f args s2.h=some (.ret v,s2.h):=e2 s2.h fun k hk => (ag.op.heap.resolve_left (by omega)).resolve_left (by omega) k (ksub k hk)
                have:=u3 s2.t s2.h ag.op
                unfold stepD
                simp only [aOps,wanted_agree ag.guard,hw,this,withH,hcall,h2,Option.bind_some]
structure Eqv (s s2:St):Prop where
  t:∀ i,lookT s2.t i=lookT s.t i
  h:∀ k,lookK s2.h k=lookK s.h k
  g:∀ l q,genOf s2.h l q=genOf s.h l q
theorem Eqv.refl (s:St):Eqv s s:=⟨fun _ => rfl,fun _ => rfl,fun _ _ => rfl⟩
theorem Eqv.trans {a b c} (h:Eqv a b) (k:Eqv b c):Eqv a c:=⟨fun i => (k.t i).trans (h.t i),fun i => (k.h i).trans (h.h i),fun l q => (k.g l q).trans (h.g l q)⟩
theorem opd_look {E t t2} {x:Operand} (h:∀ i,x=.tmp i → lookT t2 i=lookT t i):opd E t2 x=opd E t x:=by
  cases x with
  | tmp i => exact h i rfl
  | _ => rfl
theorem step_cong {E call lvl n o s s' s2} (C:CP call) (h:stepD E call lvl n o s=some s') (e:Eqv s s2):∃ s2',stepD E call lvl n o s2=some s2' ∧ Eqv s' s2':=by
  obtain ⟨v,us,h1,h2,h3,h4⟩:=step_loc C h
  obtain ⟨s2',g1,g2,g3⟩:=h4 s2 ⟨⟨fun x _ => opd_look fun i _ => e.t i,.inr (.inr fun k _ => e.h k),.inr (e.g _ _)⟩,fun d w _ => e.t d⟩
  refine ⟨s2',g1,fun i => ?_,fun k => ?_,fun l q => ?_⟩
  · rw [putT_look g2,putT_look h1,e.t]
  · rw [g3,h2,lookK_applyS,lookK_applyS,e.h]
  · rw [g3,h2,genOf_applyS,genOf_applyS,e.g]
theorem run_cong {E call lvl n} (C:CP call):∀ {l s s' s2},aOps E call lvl n l s=some (.normal,s') → Eqv s s2 → ∃ s2',aOps E call lvl n l s2=some (.normal,s2') ∧ Eqv s' s2'
  | [],s,s',s2,h,e => by simp only [aOps,Option.some.injEq,Prod.mk.injEq,true_and] at h; subst h; exact ⟨s2,rfl,e⟩
  | o :: r,s,s',s2,h,e => by
    obtain ⟨s1,h1,h2⟩:=aOps_cons.1 h
    obtain ⟨s3,h3,h4⟩:=step_cong C h1 e
    obtain ⟨s4,h5,h6⟩:=run_cong C h2 h4
    exact ⟨s4,aOps_cons.2 ⟨s3,h3,h5⟩,h6⟩
def Wf (s:St):Prop:=∀ i v,lookT s.t i=some v → ∀ k ∈ v.keys,(lookK s.h k).isSome=true
theorem keysL_inv {l:List AV} {k:Key} (h:k ∈ AV.keysL l):∃ x ∈ l,k ∈ x.keys:=by
  induction l with
  | nil => simp [AV.keysL] at h
  | cons x l ih =>
    simp only [AV.keysL,List.mem_append] at h
    rcases h with h | h
    · exact ⟨x,by simp,h⟩
    · obtain ⟨y,h1,h2⟩:=ih h; exact ⟨y,by simp [h1],h2⟩
mutual
theorem ofV_keys:∀ (v:Value) (x:AV),ofV v=some x → x.keys=[]
  | .int k n,x,h => by simp [ofV] at h; subst h; rfl
  | .bool b,x,h => by simp [ofV] at h; subst h; rfl
  | .string s,x,h => by simp only [ofV,Option.some.injEq] at h; subst h; rfl
  | .slice a l cap,x,h => by
    cases a with
    | none =>
      cases l with
      | zero => cases cap with
        | zero => simp [ofV] at h; subst h; rfl
        | succ n => simp [ofV] at h
      | succ n => simp [ofV] at h
    | some a => simp [ofV] at h
  | .pointer a,x,h => by
    cases a with
    | none => simp [ofV] at h; subst h; rfl
    | some a => simp [ofV] at h
  | .nilFunc,x,h => by simp [ofV] at h; subst h; rfl
  | .nilIface,x,h => by simp [ofV] at h; subst h; rfl
  | .agg ⟨cs⟩,x,h => by
    simp only [ofV] at h
    cases e:ofVL cs with
    | none => simp [e] at h
    | some l =>
      simp only [e,Option.bind_some] at h
      split at h
      · cases h; simpa [AV.keys] using ofVL_keys cs l e
      · cases h
  | .tuple ⟨cs⟩,x,h => by
    simp only [ofV] at h
    cases e:ofVL cs with
    | none => simp [e] at h
    | some l =>
      simp only [e,Option.map_some,Option.some.injEq] at h
      subst h
      simpa [AV.keys] using ofVL_keys cs l e
  | .float ..,x,h => by simp [ofV] at h
  | .complex ..,x,h => by simp [ofV] at h
  | .map ..,x,h => by simp [ofV] at h
  | .chan ..,x,h => by simp [ofV] at h
  | .func ..,x,h => by simp [ofV] at h
  | .iface ..,x,h => by simp [ofV] at h
theorem ofVL_keys:∀ (vs:List Value) (xs:List AV),ofVL vs=some xs → AV.keysL xs=[]
  | [],xs,h => by simp [ofVL] at h; subst h; rfl
  | v :: r,xs,h => by
    simp only [ofVL] at h
    split at h
    · rename_i x l e1 e2
      cases h
      simp [AV.keysL,ofV_keys v x e1,ofVL_keys r l e2]
    · cases h
end
theorem Wf.keysOp {s:St} (w:Wf s) {E o k} (h:k ∈ keysOp E s.t o):(lookK s.h k).isSome=true:=by
  obtain ⟨x,h1,h2⟩:=keysL_inv h
  obtain ⟨y,h3,h4⟩:=List.mem_filterMap.1 h1
  cases y with
  | tmp i => exact w i x h4 k h2
  | const v => rw [ofV_keys v x h4] at h2; cases h2
  | func f => simp [opd] at h4; subst h4; simp [AV.keys,AV.keysL] at h2
  | global g =>
    simp only [opd] at h4
    obtain ⟨cs,_,rfl⟩:=map_some h4
    simp [AV.keys] at h2
theorem apart_iff {a b:Oper} (h:apart a b=true):(∀ d,a.dst=some d → d ∉ namesOf b) ∧ (∀ d,b.dst=some d → d ∉ namesOf a) ∧ (clsOf a.op=3 → clsOf b.op=0 ∨ clsOf b.op=2) ∧ (clsOf b.op=3 → clsOf a.op=0 ∨ clsOf a.op=2) ∧
    (2 ≤ clsOf a.op → 2 ≤ clsOf b.op → a.dst.getD 0 ≠ b.dst.getD 0) ∧ (∀ d w,b.guard=some (d,w) → a.dst ≠ some d) ∧ (∀ d w,a.guard=some (d,w) → b.dst ≠ some d):=by
  unfold apart at h
  simp only [Bool.and_eq_true] at h
  obtain ⟨⟨⟨⟨⟨⟨h1,h2⟩,h3⟩,h4⟩,h5⟩,h6⟩,h7⟩:=h
  refine ⟨fun d hd => ?_,fun d hd => ?_,fun hc => ?_,fun hc => ?_,fun ha hb => ?_,fun d w hg => ?_,fun d w hg => ?_⟩
  · rw [hd] at h1; simpa using h1
  · rw [hd] at h2; simpa using h2
  · simp [hc] at h3; exact h3
  · simp [hc] at h4; exact h4
  · simp only [Bool.or_eq_true,decide_eq_true_eq,bne_iff_ne,ne_eq] at h5
    rcases h5 with (h5 | h5) | h5
    · omega
    · omega
    · exact h5
  · rw [hg] at h6; simpa using h6
  · rw [hg] at h7; simpa using h7
theorem apartN_iff {a b:Oper} (h:apartN a b=true):(∀ d,a.dst=some d → d ∉ namesOf b) ∧ (∀ d,b.dst=some d → d ∉ namesOf a) ∧
    (2 ≤ clsOf a.op → 2 ≤ clsOf b.op → a.dst.getD 0 ≠ b.dst.getD 0) ∧ (∀ d w,b.guard=some (d,w) → a.dst ≠ some d) ∧ (∀ d w,a.guard=some (d,w) → b.dst ≠ some d):=by
  unfold apartN at h
  simp only [Bool.and_eq_true] at h
  obtain ⟨⟨⟨⟨h1,h2⟩,h5⟩,h6⟩,h7⟩:=h
  refine ⟨fun d hd => ?_,fun d hd => ?_,fun ha hb => ?_,fun d w hg => ?_,fun d w hg => ?_⟩
  · rw [hd] at h1; simpa using h1
  · rw [hd] at h2; simpa using h2
  · simp only [Bool.or_eq_true,decide_eq_true_eq,bne_iff_ne,ne_eq] at h5
    rcases h5 with (h5 | h5) | h5
    · omega
    · omega
    · exact h5
  · rw [hg] at h6; simpa using h6
  · rw [hg] at h7; simpa using h7
theorem apart_N {a b:Oper} (h:apart a b=true):apartN a b=true:=by
  unfold apart at h
  unfold apartN
  simp only [Bool.and_eq_true] at h ⊢
  obtain ⟨⟨⟨⟨⟨⟨h1,h2⟩,h3⟩,h4⟩,h5⟩,h6⟩,h7⟩:=h
  exact ⟨⟨⟨⟨h1,h2⟩,h5⟩,h6⟩,h7⟩
def ClsP (a b:Oper):Prop:=(clsOf a.op=3 → clsOf b.op=0 ∨ clsOf b.op=2) ∧ (clsOf b.op=3 → clsOf a.op=0 ∨ clsOf a.op=2)
theorem apart_P {a b:Oper} (h:apart a b=true):ClsP a b:=by
  obtain ⟨_,_,c1,c2,_⟩:=apart_iff h
  exact ⟨c1,c2⟩
theorem names_opd {E:Env} {o:Oper} {n t d v t'} (hp:putT n t d v=some t') (hd:∀ x,d=some x → x ∉ namesOf o):∀ x ∈ o.op.operands.toList,opd E t' x=opd E t x:=by
  intro x hx
  refine opd_look fun i hi => ?_
  rw [putT_look hp]
  split
  · rename_i e
    exfalso
    refine hd i e ?_
    unfold namesOf
    rw [List.mem_append]
    exact .inr (List.mem_filterMap.2 ⟨x,hx,by rw [hi]⟩)
  · rfl
theorem keysOp_same {E t t2 o} (h:∀ x ∈ o.op.operands.toList,opd E t2 x=opd E t x):keysOp E t2 o=keysOp E t o:=by
  unfold keysOp opVals
  congr 1
  have:∀ l:List Operand,(∀ x ∈ l,opd E t2 x=opd E t x) → l.filterMap (opd E t2)=l.filterMap (opd E t):=by
    intro l
    induction l with
    | nil => intro _; rfl
    | cons x l ih => intro hl; simp only [List.filterMap_cons,hl x (by simp),ih fun y hy => hl y (by simp [hy])]
  exact this _ h
theorem swap {E call lvl n a b s s1 s12} (C:CP call) (w:Wf s) (ab:apartN a b=true) (hd:ClsP a b ∨ ∀ k ∈ keysOp E s.t a,k ∉ keysOp E s1.t b) (h1:stepD E call lvl n a s=some s1) (h2:stepD E call lvl n b s1=some s12) :
    ∃ s2 s21,stepD E call lvl n b s=some s2 ∧ stepD E call lvl n a s2=some s21 ∧ Eqv s12 s21 ∧ keysOp E s1.t b=keysOp E s.t b ∧ keysOp E s2.t a=keysOp E s.t a:=by
  obtain ⟨n1,n2,sl,g1,g2⟩:=apartN_iff ab
  obtain ⟨va,ua,a1,a2,a3,a4⟩:=step_loc C h1
  obtain ⟨vb,ub,b1,b2,b3,b4⟩:=step_loc C h2
  -- the one operation's operands don't lie where the other one writes
  have oab:=names_opd (E:=E) (o:=b) a1 n1
  have kb:keysOp E s1.t b=keysOp E s.t b:=keysOp_same oab
  have pres:∀ k,(lookK s.h k).isSome=true → (lookK s1.h k).isSome=true:=by
    intro k hk
    rw [a2,lookK_applyS]
    cases lookU ua k with
    | some o => rfl
    | none => exact hk
  have freshA:∀ p ∈ ua,p.1=(lvl,a.dst.getD 0,genOf s.h lvl (a.dst.getD 0)) → lookK s.h p.1=none:=fun p _ e => by rw [e]; exact lookK_fresh _ _ _
  have freshB:∀ p ∈ ub,p.1=(lvl,b.dst.getD 0,genOf s1.h lvl (b.dst.getD 0)) → lookK s1.h p.1=none:=fun p _ e => by rw [e]; exact lookK_fresh _ _ _
  have uaNo:clsOf b.op=1 ∨ 3 ≤ clsOf b.op → ∀ k ∈ keysOp E s.t b,lookU ua k=none:=fun hc k hk => lookU_none fun p hp e => by
    rcases a3 p hp with ⟨q0,q2,_⟩ | ⟨q1,_⟩
    · rcases hd with ⟨c1,_⟩ | hd
      · have:=c1 q2; omega
      · exact hd p.1 q0 (by rw [kb,e]; exact hk)
    · have h3:=freshA p hp q1
      have h4:=w.keysOp hk
      rw [← e,h3] at h4; cases h4
  have cls4:∀ o:Op,clsOf o=0 ∨ clsOf o=1 ∨ clsOf o=2 ∨ clsOf o=3 ∨ clsOf o=4:=by intro o; unfold clsOf; split <;> simp
  have gB:clsOf b.op < 2 ∨ genOf s.h lvl (b.dst.getD 0)=genOf s1.h lvl (b.dst.getD 0):=by
    by_cases hc:clsOf b.op < 2
    · exact .inl hc
    · refine .inr ?_
      rw [a2,genOf_applyS]
      have:=genOf_le (us:=ua) (h:=s.h) (l:=lvl) (s:=b.dst.getD 0) fun p hp => by
        rcases a3 p hp with ⟨_,_,q3⟩ | ⟨q1,q2⟩
        · exact .inl q3
        · refine .inr fun ⟨_,e⟩ => sl q2 (by omega) ?_
          rw [q1] at e; exact e
      omega
  obtain ⟨s2,t1,t2,t3⟩:=b4 s ⟨⟨fun x hx => (oab x hx).symm,by
      rcases cls4 b.op with hc | hc | hc | hc | hc
      · exact .inl hc
      · refine .inr (.inr fun k hk => ?_)
        rw [kb] at hk
        rw [a2,lookK_applyS,uaNo (.inl hc) k hk]
      · exact .inr (.inl hc)
      · refine .inr (.inr fun k hk => ?_)
        rw [kb] at hk
        rw [a2,lookK_applyS,uaNo (.inr (by omega)) k hk]
      · refine .inr (.inr fun k hk => ?_)
        rw [kb] at hk
        rw [a2,lookK_applyS,uaNo (.inr (by omega)) k hk],gB⟩,fun d w' hg => by
      rw [putT_look a1,if_neg (g1 d w' hg)]⟩
  have oba:=names_opd (E:=E) (o:=a) t2 n2
  have ubNo:clsOf a.op=1 ∨ 3 ≤ clsOf a.op → ∀ k ∈ keysOp E s.t a,lookU ub k=none:=fun hc k hk => lookU_none fun p hp e => by
    rcases b3 p hp with ⟨q0,q2,_⟩ | ⟨q1,_⟩
    · rcases hd with ⟨_,c2⟩ | hd
      · have:=c2 q2; omega
      · exact hd p.1 (by rw [e]; exact hk) q0
    · have h3:=freshB p hp q1
      have h4:=pres _ (w.keysOp hk)
      rw [← e,h3] at h4; cases h4
  have gA:clsOf a.op < 2 ∨ genOf s2.h lvl (a.dst.getD 0)=genOf s.h lvl (a.dst.getD 0):=by
    by_cases hc:clsOf a.op < 2
    · exact .inl hc
    · refine .inr ?_
      rw [t3,genOf_applyS]
      have:=genOf_le (us:=ub) (h:=s.h) (l:=lvl) (s:=a.dst.getD 0) fun p hp => by
        rcases b3 p hp with ⟨q1,_,_⟩ | ⟨q1,q2⟩
        · rw [kb] at q1; exact .inl (w.keysOp q1)
        · refine .inr fun ⟨_,e⟩ => sl (by omega) q2 ?_
          rw [q1] at e; exact e.symm
      omega
  obtain ⟨s21,r1,r2,r3⟩:=a4 s2 ⟨⟨oba,by
      rcases cls4 a.op with hc | hc | hc | hc | hc
      · exact .inl hc
      · exact .inr (.inr fun k hk => by rw [t3,lookK_applyS,ubNo (.inl hc) k hk])
      · exact .inr (.inl hc)
      · exact .inr (.inr fun k hk => by rw [t3,lookK_applyS,ubNo (.inr (by omega)) k hk])
      · exact .inr (.inr fun k hk => by rw [t3,lookK_applyS,ubNo (.inr (by omega)) k hk]),gA⟩,fun d w' hg => by
      rw [putT_look t2,if_neg (g2 d w' hg)]⟩
  refine ⟨s2,s21,t1,r1,⟨fun i => ?_,fun k => ?_,fun l q => ?_⟩,kb,keysOp_same oba⟩
  · rw [putT_look r2,putT_look t2,putT_look b1,putT_look a1]
    by_cases e1:a.dst=some i
    · by_cases e2:b.dst=some i
      · exfalso
        refine n1 i e1 ?_
        unfold namesOf; simp [e2]
      · rw [if_pos e1,if_neg e2,if_pos e1]
    · rw [if_neg e1,if_neg e1]
  · rw [r3,t3,b2,a2]
    simp only [lookK_applyS]
    cases ea:lookU ua k with
    | none => cases lookU ub k <;> rfl
    | some oa =>
      cases eb:lookU ub k with
      | none => rfl
      | some ob =>
        exfalso
        have mem:∀ (us:List (Key × AObj)) o,lookU us k=some o → ∃ p ∈ us,p.1=k:=by
          intro us
          induction us with
          | nil => intro o h; simp [lookU] at h
          | cons p r ih =>
            intro o h
            obtain ⟨q,x⟩:=p
            simp only [lookU] at h
            cases er:lookU r k with
            | some y => obtain ⟨p,p1,p2⟩:=ih y er; exact ⟨p,by simp [p1],p2⟩
            | none =>
              rw [er] at h
              simp only at h
              split at h
              · rename_i e; exact ⟨(q,x),by simp,e⟩
              · cases h
        obtain ⟨p,p1,p2⟩:=mem ua oa ea
        obtain ⟨q,q1,q2⟩:=mem ub ob eb
        rcases a3 p p1 with ⟨x1,x2,x3⟩ | ⟨x1,x2⟩
        · rcases b3 q q1 with ⟨y1,y2,y3⟩ | ⟨y1,y2⟩
          · rcases hd with ⟨c1,_⟩ | hd
            · have:=c1 x2; omega
            · exact hd p.1 x1 (by rw [p2,← q2]; exact y1)
          · have h3:=freshB q q1 y1
            have h4:=pres _ x3
            rw [p2,← q2,h3] at h4; cases h4
        · rcases b3 q q1 with ⟨y1,y2,y3⟩ | ⟨y1,y2⟩
          · have h3:=freshA p p1 x1
            rw [kb] at y1
            have h4:=w.keysOp y1
            rw [q2,← p2,h3] at h4; cases h4
          · refine sl x2 y2 ?_
            have:(lvl,a.dst.getD 0,genOf s.h lvl (a.dst.getD 0))=(lvl,b.dst.getD 0,genOf s1.h lvl (b.dst.getD 0)):=by rw [← x1,← y1,p2,q2]
            simp only [Prod.mk.injEq] at this
            exact this.2.1
  · rw [r3,t3,b2,a2]
    simp only [genOf_applyS]
    omega
end Ab
/- A region whose order is open comes to what its text says. Own work, no conditions. -/
set_option linter.unusedVariables false
set_option linter.unusedSimpArgs false
namespace Ab
open Go
def Conc (E:Env) (base n:Nat) (s:St):Prop:=∃ c tmps,HR base c ∧ base ≤ c.w.heap.size ∧ GOK E c ∧ c.h=s.h ∧ FR c n s.t tmps
mutual
theorem RV.keys_there {c:Cx}:∀ {x v},RV c x v → ∀ k ∈ x.keys,c.Vk k
  | _,_,.int ..,k,hk => by simp [AV.keys] at hk
  | _,_,.bool ..,k,hk => by simp [AV.keys] at hk
  | _,_,.str ..,k,hk => by simp [AV.keys] at hk
  | _,_,.agg _ _ h _,k,hk => RVs.keys_there h k hk
  | _,_,.tup _ _ h,k,hk => RVs.keys_there h k hk
  | _,_,.slE ..,k,hk => by simp [AV.keys] at hk
  | _,_,.slC ..,k,hk => by simp [AV.keys] at hk
  | _,_,.ref _ _ _ _ _ h ..,k,hk => by simp [AV.keys] at hk; subst hk; exact h
  | _,_,.ptr _ _ h,k,hk => by simp [AV.keys] at hk; subst hk; exact h
  | _,_,.pel ..,k,hk => by simp [AV.keys] at hk
  | _,_,.nilp,k,hk => by simp [AV.keys] at hk
  | _,_,.fn _ _ _ _ _ h1 h2,k,hk => by
    simp only [AV.keys,List.mem_append] at hk
    rcases hk with hk | hk
    · exact RVs.keys_there h1 k hk
    · exact RVs.keys_there h2 k hk
  | _,_,.nilf,k,hk => by simp [AV.keys] at hk
  | _,_,.iface _ _ _ h,k,hk => RV.keys_there h k hk
  | _,_,.nili,k,hk => by simp [AV.keys] at hk
theorem RVs.keys_there {c:Cx}:∀ {xs vs},RVs c xs vs → ∀ k ∈ AV.keysL xs,c.Vk k
  | _,_,.nil,k,hk => by simp [AV.keysL] at hk
  | _,_,.cons _ _ _ _ h1 h2,k,hk => by
    simp only [AV.keysL,List.mem_append] at hk
    rcases hk with hk | hk
    · exact RV.keys_there h1 k hk
    · exact RVs.keys_there h2 k hk
end
theorem Conc.wf {E base n s} (h:Conc E base n s):Wf s:=by
  obtain ⟨c,tmps,_,_,_,h4,h5⟩:=h
  intro i v hi k hk
  obtain ⟨o,ho⟩:=(h5.2 i v hi).keys_there k hk
  rw [← h4,ho]; rfl
theorem Conc.step {P E} (O:EnvOK P E) {call:CallF} (C:CallOK P E call) {base lvl n o s s'} (hc:Conc E base n s) (h:stepD E call lvl n o s=some s'):Conc E base n s':=by
  obtain ⟨c,tmps,H,hb,G,hh,F⟩:=hc
  have fr:∀ (c1:Cx) (t1:Fr) (v:AV) (val:Value),HR base c1 → Ext base c c1 → RV c1 v val → putT n s.t o.dst v=some t1 → Conc E base n ⟨t1,c1.h⟩:=by
    intro c1 t1 v val H1 X hv hp
    refine ⟨c1,((⟨tmps,[]⟩:Act).put o.dst val).tmps,H1,Nat.le_trans hb X.size,G.ext X H,rfl,?_⟩
    exact (show FR c1 n s.t (⟨tmps,[]⟩:Act).tmps from F.ext X H).put hp hv
  unfold stepD at h
  simp only [aOps] at h
  cases hw:wantedA s.t o with
  | none => rw [hw] at h; simp at h
  | some b =>
    rw [hw] at h
    cases b with
    | false =>
      simp only at h
      cases hp:putT n s.t o.dst (.tup []) with
      | none => rw [hp] at h; simp at h
      | some t1 =>
        rw [hp] at h
        simp only [Option.bind_some,Option.some.injEq] at h
        subst h
        have:=fr c t1 _ undef H (.refl _ _) (.tup [] [] .nil) hp
        rwa [hh] at this
    | true =>
      simp only at h
      cases ho:aOp E lvl s.t s.h o with
      | none => rw [ho] at h; simp at h
      | some q =>
        rw [ho] at h
        rw [← hh] at ho
        have hs:=aOp_sound O (a:=⟨tmps,[]⟩) ho H hb G F
        cases q with
        | panic v => simp at h
        | val v h1 =>
          simp only at h
          cases hp:putT n s.t o.dst v with
          | none => rw [hp] at h; simp at h
          | some t1 =>
            rw [hp] at h
            simp only [Option.bind_some,Option.some.injEq] at h
            subst h
            obtain ⟨val,c1,a1,a2,a3,a4,a5⟩:=hs
            have:=fr c1 t1 v val a4 a5 a3 hp
            rwa [a1] at this
        | skip h1 =>
          simp only at h
          cases hp:putT n s.t o.dst (.tup []) with
          | none => rw [hp] at h; simp at h
          | some t1 =>
            rw [hp] at h
            simp only [Option.bind_some,Option.some.injEq] at h
            subst h
            obtain ⟨c1,a1,a2,a4,a5⟩:=hs
            have:=fr c1 t1 _ undef a4 a5 (.tup [] [] .nil) hp
            rwa [a1] at this
        | call f args =>
          simp only at h
          obtain ⟨vals,_,a2⟩:=hs
          cases hcl:call (o.dst.getD 0) f args s.h with
          | none => rw [hcl] at h; simp at h
          | some p =>
            obtain ⟨r',h1⟩:=p
            rw [hcl] at h
            cases r' with
            | panic ch => simp at h
            | ret v =>
              simp only at h
              cases hp:putT n s.t o.dst v with
              | none => rw [hp] at h; simp at h
              | some t1 =>
                rw [hp] at h
                simp only [Option.bind_some,Option.some.injEq] at h
                subst h
                rw [← hh] at hcl
                obtain ⟨g,vals',b1,b2⟩:=C base c _ f args vals (.ret v) h1 hcl H hb G a2
                obtain ⟨e,w',fr',⟨c1,q1,q2,q3,q4,val,q5,q6⟩,_⟩:=b2 []
                have:=fr c1 t1 v val q3 q4 q6 hp
                rwa [q2] at this
theorem footL_cons {E call lvl n o r s fs}:footL E call lvl n (o :: r) s=some fs ↔ ∃ s1 l,stepD E call lvl n o s=some s1 ∧ footL E call lvl n r s1=some l ∧ fs=keysOp E s.t o :: l:=by
  simp only [footL,stepD]
  cases aOps E call lvl n [o] s with
  | none => simp
  | some p =>
    obtain ⟨e,s1⟩:=p
    cases e with
    | normal =>
      simp only
      cases h:footL E call lvl n r s1 with
      | none =>
        constructor
        · intro q; cases q
        · rintro ⟨s2,l,q1,q2,_⟩; cases q1; rw [h] at q2; cases q2
      | some l =>
        constructor
        · intro q; cases q; exact ⟨s1,l,rfl,h,rfl⟩
        · rintro ⟨s2,l',q1,q2,rfl⟩; cases q1; rw [h] at q2; cases q2; rfl
    | _ => simp
theorem keysOp_eqv {E:Env} {s s2:St} (e:Eqv s s2) (o:Oper):keysOp E s2.t o=keysOp E s.t o:=keysOp_same fun x _ => opd_look fun i _ => e.t i
theorem foot_cong {E call lvl n} (C:CP call):∀ {l s s2 fs},footL E call lvl n l s=some fs → Eqv s s2 → footL E call lvl n l s2=some fs
  | [],s,s2,fs,h,e => h
  | o :: r,s,s2,fs,h,e => by
    obtain ⟨s1,l,h1,h2,rfl⟩:=footL_cons.1 h
    obtain ⟨s3,h3,h4⟩:=step_cong C h1 e
    exact footL_cons.2 ⟨s3,l,h3,foot_cong C h2 h4,by rw [keysOp_eqv e]⟩
theorem foot_total {E call lvl n}:∀ {l s s'},aOps E call lvl n l s=some (.normal,s') → ∃ fs,footL E call lvl n l s=some fs ∧ fs.length=l.length
  | [],s,s',h => ⟨[],rfl,rfl⟩
  | o :: r,s,s',h => by
    obtain ⟨s1,h1,h2⟩:=aOps_cons.1 h
    obtain ⟨l,h3,h4⟩:=foot_total h2
    exact ⟨_,footL_cons.2 ⟨s1,l,h1,h3,rfl⟩,by simp [h4]⟩
theorem front {P E} (O:EnvOK P E) {call:CallF} (K:CallOK P E call) (C:CP call) {base lvl n x fx}:∀ {pre fpre post fpost s s'},Conc E base n s → fpre.length=pre.length → (∀ p ∈ pre.zip fpre,apartN p.1 x=true ∧ (ClsP p.1 x ∨ ∀ k ∈ p.2,k ∉ fx)) →
    aOps E call lvl n (pre ++ x :: post) s=some (.normal,s') → footL E call lvl n (pre ++ x :: post) s=some (fpre ++ fx :: fpost) →
    ∃ s'',aOps E call lvl n (x :: (pre ++ post)) s=some (.normal,s'') ∧ Eqv s' s'' ∧ footL E call lvl n (x :: (pre ++ post)) s=some (fx :: (fpre ++ fpost))
  | [],fpre,post,fpost,s,s',_,hl,_,h,hf => by
    have:fpre=[]:=List.eq_nil_of_length_eq_zero (by simpa using hl)
    subst this
    exact ⟨s',h,.refl _,hf⟩
  | k :: pre,[],post,fpost,s,s',_,hl,_,_,_ => by simp at hl
  | k :: pre,fk :: fpre,post,fpost,s,s',hc,hl,ha,h,hf => by
    obtain ⟨s1,h1,h2⟩:=aOps_cons.1 h
    obtain ⟨s1',l,e1,e2,e3⟩:=footL_cons.1 hf
    rw [h1] at e1; cases e1
    simp only [List.cons_append,List.cons.injEq] at e3
    obtain ⟨rfl,rfl⟩:=e3
    obtain ⟨s2,h3,h4,hf3⟩:=front O K C (hc.step O K h1) (by simpa using hl) (fun q hq => ha q (by rw [List.zip_cons_cons]; exact List.mem_cons_of_mem _ hq)) h2 e2
    obtain ⟨s3,h5,h6⟩:=aOps_cons.1 h3
    obtain ⟨s3',l2,e4,e5,e6⟩:=footL_cons.1 hf3
    rw [h5] at e4; cases e4
    simp only [List.cons.injEq] at e6
    obtain ⟨rfl,rfl⟩:=e6
    obtain ⟨ab,hd⟩:=ha (k,keysOp E s.t k) (by rw [List.zip_cons_cons]; simp)
    obtain ⟨t1,t2,g1,g2,g3,kb,ka⟩:=swap C hc.wf ab hd h1 h5
    obtain ⟨s4,g4,g5⟩:=run_cong C h6 g3
    refine ⟨s4,aOps_cons.2 ⟨t1,g1,aOps_cons.2 ⟨t2,g2,g4⟩⟩,h4.trans g5,?_⟩
    refine footL_cons.2 ⟨t1,_,g1,footL_cons.2 ⟨t2,_,g2,foot_cong C e5 g3,rfl⟩,?_⟩
    rw [kb,ka]
    rfl
theorem eqv_ctx {base c} (H:HR base c) (h:Heap) (e:∀ k,lookK h k=lookK c.h k):HR base { c with h:=h } ∧ (∀ x v,RV c x v → RV { c with h:=h } x v) ∧ ∀ L,ExtL L base c { c with h:=h }:=by
  have rv:∀ x v,RV c x v → RV { c with h:=h } x v:=fun x v hx => hx.mono (c:=c) (c':={ c with h:=h }) (fun b hb => ⟨hb,rfl⟩) fun k _ ⟨o,ho⟩ => ⟨⟨o,(e k).trans ho⟩,rfl⟩
  refine ⟨⟨?_,?_,?_,?_,H.rd⟩,rv,fun L => ⟨rfl,rfl,rfl,Nat.le_refl _,fun _ _ _ => rfl,fun _ h => h,fun k _ ⟨o,ho⟩ => ⟨⟨o,(e k).trans ho⟩,rfl⟩,fun b h => .inl h,?_⟩⟩
  · intro k o hk hl
    obtain ⟨arr,ee,fr,h1,h2,h3,h4,h4b,h5⟩:=H.obj k o ((e k).symm.trans hk) hl
    exact ⟨arr,ee,fr,h1,h2,h3,h4,h4b,fun i x hx => by
      obtain ⟨v,q1,q2,q3⟩:=h5 i x hx
      exact ⟨v,q1,rv _ _ q2,q3⟩⟩
  · exact fun k o hk => H.mt k o ((e k).symm.trans hk)
  · exact fun k o hk => H.sld k o ((e k).symm.trans hk)
  · exact fun k o k' o' hk hk' => H.inj k o k' o' ((e k).symm.trans hk) ((e k').symm.trans hk')
  · rintro b ⟨k,o,hk,hl,hm,rfl⟩
    exact .inl ⟨k,o,(e k).symm.trans hk,hl,hm,rfl⟩
def rest (n:Nat) (listed:Array Bool):List Nat:=(List.range n).filter fun i => !listed.getD i true
theorem ready_mem {ops:Array Oper} {listed:Array Bool} {i:Nat}:i ∈ Region.ready .any ops listed ↔ i < ops.size ∧ listed.getD i true=false ∧ ∃ o,ops[i]? = some o ∧ ∀ e ∈ o.after,Region.binds .any e=true → listed.getD e.on false=true:=by
  unfold Region.ready
  rw [List.mem_filter,List.mem_range]
  have key:∀ o:Oper,(o.after.all fun e => !Region.binds .any e || listed.getD e.on false)=true ↔ ∀ e ∈ o.after,Region.binds .any e=true → listed.getD e.on false=true:=by
    intro o
    rw [Array.all_eq_true']
    constructor
    · intro h e he hb
      have:=h e he
      rw [hb] at this
      simpa using this
    · intro h e he
      cases hb:Region.binds .any e with
      | false => rfl
      | true => rw [h e he hb]; rfl
  constructor
  · rintro ⟨h1,h2⟩
    rw [Bool.and_eq_true] at h2
    refine ⟨h1,by simpa using h2.1,ops[i],by simp [h1],?_⟩
    have h3:=h2.2
    rw [Array.getElem?_eq_getElem h1] at h3
    exact (key _).1 h3
  · rintro ⟨h1,h2,o,h3,h4⟩
    refine ⟨h1,?_⟩
    rw [Bool.and_eq_true,h3]
    exact ⟨by rw [h2]; rfl,(key o).2 h4⟩
theorem getD_set {listed:Array Bool} {i k:Nat} (b:Bool) (hi:i < listed.size):(listed.setIfInBounds i true).getD k b=if i=k then true else listed.getD k b:=by
  rw [Array.getD_eq_getD_getElem?,Array.getElem?_setIfInBounds,Array.getD_eq_getD_getElem?]
  split
  · simp [hi]
  · rfl
theorem getD_tf {listed:Array Bool} {k:Nat} (h:listed.getD k true=false):listed.getD k false=false:=by
  rw [Array.getD_eq_getD_getElem?] at h ⊢
  cases e:listed[k]? with
  | none => rfl
  | some x => rw [e] at h; exact h
theorem getD_ft {listed:Array Bool} {k:Nat} (hk:k < listed.size):listed.getD k true=listed.getD k false:=by
  simp [Array.getD_eq_getD_getElem?,hk]
theorem rest_split {n:Nat} {listed:Array Bool} {i:Nat} (hs:n ≤ listed.size) (hi:i < n) (hl:listed.getD i true=false) :
    ∃ pre post,rest n listed=pre ++ i :: post ∧ (∀ k ∈ pre,k < i ∧ listed.getD k true=false) ∧ rest n (listed.setIfInBounds i true)=pre ++ post:=by
  have hr:List.range n=List.range i ++ i :: List.range' (i + 1) (n - i - 1):=by
    rw [List.range_eq_range',List.range_eq_range']
    have:n=i + (1 + (n - i - 1)):=by omega
    conv => lhs; rw [this,← List.range'_append_1,← List.range'_append_1]
    simp
  refine ⟨(List.range i).filter fun k => !listed.getD k true,(List.range' (i + 1) (n - i - 1)).filter fun k => !listed.getD k true,?_,?_,?_⟩
  · unfold rest
    rw [hr,List.filter_append,List.filter_cons]
    simp [hl]
  · intro k hk
    rw [List.mem_filter,List.mem_range] at hk
    exact ⟨hk.1,by simpa using hk.2⟩
  · unfold rest
    rw [hr,List.filter_append,List.filter_cons]
    have h1:(!(listed.setIfInBounds i true).getD i true)=false:=by rw [getD_set _ (by omega)]; simp
    rw [if_neg (by rw [h1]; simp)]
    congr 1
    · apply List.filter_congr
      intro k hk
      rw [List.mem_range] at hk
      rw [getD_set _ (by omega),if_neg (by omega)]
    · apply List.filter_congr
      intro k hk
      rw [List.mem_range'_1] at hk
      rw [getD_set _ (by omega),if_neg (by omega)]
theorem before_bit (ops:Array Oper) {i k:Nat} (h:((Region.before ops).getD i 0).testBit k=true):∃ o,ops[i]? = some o ∧ ∃ e ∈ o.after,Region.binds .any e=true ∧ (e.on=k ∨ ((Region.before ops).getD e.on 0).testBit k=true):=by
  -- one operation's row
  have row:∀ (acc:Array Nat) (es:List (Edge)) (s0:Nat),(es.foldl (fun s e => if Region.binds .any e then s ||| 2 ^ e.on ||| acc.getD e.on 0 else s) s0).testBit k=true → s0.testBit k=true ∨ ∃ e ∈ es,Region.binds .any e=true ∧ (e.on=k ∨ (acc.getD e.on 0).testBit k=true):=by
    intro acc es
    induction es with
    | nil => intro s0 h; exact .inl h
    | cons e es ih =>
      intro s0 h
      rw [List.foldl_cons] at h
      rcases ih _ h with h1 | ⟨e',he',h2⟩
      · split at h1
        · rename_i hb
          rw [Nat.testBit_or,Nat.testBit_or,Bool.or_eq_true,Bool.or_eq_true] at h1
          rcases h1 with (h1 | h1) | h1
          · exact .inl h1
          · rw [Nat.testBit_two_pow] at h1
            exact .inr ⟨e,by simp,hb,.inl (by simpa using h1)⟩
          · exact .inr ⟨e,by simp,hb,.inr h1⟩
        · exact .inl h1
      · exact .inr ⟨e',by simp [he'],h2⟩
  let g:Array Nat → Oper → Array Nat:=fun acc o => acc.push (o.after.foldl (fun s e => if Region.binds .any e then s ||| 2 ^ e.on ||| acc.getD e.on 0 else s) 0)
  have gd:∀ (acc:Array Nat) (x i:Nat),i < acc.size → (acc.push x).getD i 0=acc.getD i 0:=by
    intro acc x i hi
    rw [Array.getD_eq_getD_getElem?,Array.getD_eq_getD_getElem?,Array.getElem?_push_lt hi]
    simp [hi]
  have pre:∀ (l:List Oper) (acc:Array Nat),acc.size ≤ (l.foldl g acc).size ∧ ∀ i,i < acc.size → (l.foldl g acc).getD i 0=acc.getD i 0:=by
    intro l
    induction l with
    | nil => intro acc; exact ⟨Nat.le_refl _,fun _ _ => rfl⟩
    | cons o l ih =>
      intro acc
      obtain ⟨h1,h2⟩:=ih (g acc o)
      have hsz:(g acc o).size=acc.size + 1:=Array.size_push ..
      rw [List.foldl_cons]
      exact ⟨by omega,fun i hi => (h2 i (by omega)).trans (gd acc _ i hi)⟩
  have main:∀ (l:List Oper) (acc:Array Nat) (i:Nat),acc.size ≤ i → ((l.foldl g acc).getD i 0).testBit k=true → ∃ o,l[i - acc.size]? = some o ∧ ∃ e ∈ o.after,Region.binds .any e=true ∧ (e.on=k ∨ ((l.foldl g acc).getD e.on 0).testBit k=true):=by
    intro l
    induction l with
    | nil =>
      intro acc i hi h
      simp only [List.foldl_nil] at h
      rw [Array.getD_eq_getD_getElem?,Array.getElem?_eq_none hi] at h
      simp at h
    | cons o l ih =>
      intro acc i hi h
      rw [List.foldl_cons] at h ⊢
      have hsz:(g acc o).size=acc.size + 1:=Array.size_push ..
      obtain ⟨p1,p2⟩:=pre l (g acc o)
      by_cases e:i=acc.size
      · subst e
        rw [p2 _ (by omega)] at h
        have h':(o.after.foldl (fun s e => if Region.binds .any e then s ||| 2 ^ e.on ||| acc.getD e.on 0 else s) 0).testBit k=true:=by
          have:(g acc o).getD acc.size 0=o.after.foldl (fun s e => if Region.binds .any e then s ||| 2 ^ e.on ||| acc.getD e.on 0 else s) 0:=by
            show (acc.push _).getD acc.size 0=_
            rw [Array.getD_eq_getD_getElem?,Array.getElem?_push_size]; rfl
          rwa [this] at h
        rw [← Array.foldl_toList] at h'
        rcases row acc o.after.toList 0 h' with h1 | ⟨e,he,hb,h2⟩
        · simp at h1
        · refine ⟨o,by simp,e,by simpa using he,hb,h2.imp id fun h2 => ?_⟩
          by_cases hon:e.on < acc.size
          · rw [p2 _ (by omega)]
            show ((acc.push _).getD e.on 0).testBit k=true
            rw [gd acc _ _ hon]; exact h2
          · rw [Array.getD_eq_getD_getElem?,Array.getElem?_eq_none (by omega)] at h2
            simp at h2
      · obtain ⟨o',h1,h2⟩:=ih (g acc o) i (by omega) h
        refine ⟨o',?_,h2⟩
        rw [hsz] at h1
        have:i - acc.size=i - (acc.size + 1) + 1:=by omega
        rw [this]; simpa using h1
  have hB:Region.before ops=ops.toList.foldl g #[]:=by
    unfold Region.before
    rw [← Array.foldl_toList]
  rw [hB] at h ⊢
  obtain ⟨o,h1,h2⟩:=main ops.toList #[] i (by simp) h
  exact ⟨o,by simpa using h1,h2⟩
theorem wpOp_both {P:Program} {ops:Array Oper} {Q Q':Exit → Act → World → Prop} {i:Nat} {a:Act} {w:World} {K K':Act → World → Prop} (h:∀ a w,K a w → K' a w) (hq:∀ e a w,e ≠ .normal → Q e a w → Q' e a w)
    (hh:wpOp P ops Q i K a w):wpOp P ops Q' i K' a w:=by
  have lo:LetsOut Q → LetsOut Q':=fun ⟨a,w,h⟩ => ⟨a,w,hq _ _ _ (by simp) h⟩
  unfold wpOp at *
  split
  · exact h _ _ (by simpa [*] using hh)
  · rename_i o ho
    simp only [ho] at hh
    split
    · rename_i hw
      simp only [hw,if_true] at hh
      refine hh.imp (fun hp => ?_) fun ⟨x,y⟩ => ⟨x,lo y⟩
      unfold Oper.wp at *
      generalize (execOp a.eval o).run P w=r at *
      cases r with
      | ok n w' =>
        cases n <;> simp only [Oper.upon] at hp ⊢ <;>
          first
            | exact h _ _ hp
            | exact Calls.mono hp (fun e w'' he => by cases e <;> first | exact h _ _ he | exact lo he | exact hq _ _ _ (by simp) he)
            | exact Rows.mono hp (fun _ _ he => h _ _ he)
            | exact hp
      | halt x w' => cases x <;> simp only [Oper.upon] at hp ⊢ <;> first | exact hq _ _ _ (by simp) hp | exact hp
    · rename_i hw; simp only [hw] at hh; exact h _ _ hh
end Ab
