/- Code and calls of the evaluator are the model's. Own work, no conditions. -/
import Derived.Test.YtbgmkcmailcciaaDoorB18
set_option linter.unusedVariables false
set_option linter.unusedSimpArgs false
namespace Ab
open Go

def namesOf (o : Oper) : List Tmp := o.dst.toList ++ (o.op.operands.toList.filterMap fun | .tmp t => some t | _ => none)
/-- Of an operation: 0 leaves the heap and doesn't look at it; 1 looks; 2 makes something new; 3 turns what is there; 4 looks and makes something new. -/
def clsOf : Op → Nat
  | .move _ | .assign _ | .pick .. | .binOp .. | .unOp .. | .fieldAddr .. | .field .. | .index .. | .indexAddr .. | .extract .. | .nilCheck _ | .makeFunc .. | .makeInterface .. | .build .. => 0
  | .call { callee := .builtin .len, .. } | .call { callee := .builtin .cap, .. } | .call { callee := .builtin .min, .. } | .call { callee := .builtin .max, .. } => 0
  | .call { callee := .value _, .. } => 1
  | .load .. | .slice .. => 1
  | .alloc _ | .box .. | .buildSlice .. | .makeSlice .. => 2
  | .convert .. => 4
  | _ => 3
def apart (a b : Oper) : Bool :=
  (a.dst.all fun d => !(namesOf b).contains d) && (b.dst.all fun d => !(namesOf a).contains d) &&
  (clsOf a.op != 3 || clsOf b.op == 0 || clsOf b.op == 2) && (clsOf b.op != 3 || clsOf a.op == 0 || clsOf a.op == 2) &&
  (decide (clsOf a.op < 2) || decide (clsOf b.op < 2) || a.dst.getD 0 != b.dst.getD 0) &&
  (match b.guard with | some (d, _) => a.dst != some d | none => true) && (match a.guard with | some (d, _) => b.dst != some d | none => true)
/-- Apart but for what the two may do to the same things. -/
def apartN (a b : Oper) : Bool :=
  (a.dst.all fun d => !(namesOf b).contains d) && (b.dst.all fun d => !(namesOf a).contains d) &&
  (decide (clsOf a.op < 2) || decide (clsOf b.op < 2) || a.dst.getD 0 != b.dst.getD 0) &&
  (match b.guard with | some (d, _) => a.dst != some d | none => true) && (match a.guard with | some (d, _) => b.dst != some d | none => true)
/-- A region whose order is open comes to one end. 'ops': the model's; 'l': the same, erased; 'ps': the pairs that are looked at when it runs. -/
def barOK (ops : Array Oper) (c : Nat) : Bool :=
  let b := Region.before ops
  decide (c < ops.size) && ((List.range c).all fun i => (b.getD c 0).testBit i) && (List.range ops.size).all fun j => decide (j ≤ c) || (b.getD j 0).testBit c
def drawOK (ops : Array Oper) (l : List Oper) (ps : List (Nat × Nat)) : Bool :=
  let b := Region.before ops
  (match barOf true ps with | some c => barOK ops c | none => true) &&
  (List.range ops.size).all fun j =>
    ((ops[j]?).map fun o => o.after.all fun e => !Region.binds .any e || decide (e.on < j)).getD false &&
    (List.range j).all fun i =>
      (b.getD j 0).testBit i || (match l[i]?, l[j]? with
        | some x, some y => apart x y || (apartN x y && ps.any fun p => p.1 == i && p.2 == j)
        | _, _ => false)

def eraseC (dyn : Nat → List (Nat × Nat)) : Code → Option Code
  | .skip => some .skip
  | .region id ops draw => match eraseL ops ops.toList with
    | some l => if draw && !drawOK ops l (dyn id) then none else some (.region id l.toArray draw)
    | none => none
  | .seq a b => match eraseC dyn a, eraseC dyn b with
    | some x, some y => some (.seq x y)
    | _, _ => none
  | .cond c a b => match eraseC dyn a, eraseC dyn b with
    | some x, some y => some (.cond c x y)
    | _, _ => none
  | .block id b => (eraseC dyn b).map (.block id)
  | .loop b => (eraseC dyn b).map .loop
  | .exit id => some (.exit id)
  | .ret => some .ret
  | .rangeFunc .. => some (.refuse "")
  | .refuse _ => some (.refuse "")
  | _ => none

/-- Of calls where the order is open: they leave the heap, and look at what they are handed alone. -/
def CP (call : CallF) : Prop := ∀ lvl f args h v h', call lvl f args h = some (.ret v, h') → h' = h ∧ ∀ h2, (∀ k ∈ AV.keysL args, lookK h2 k = lookK h k) → call lvl f args h2 = some (.ret v, h2)
/-- What is owed for regions whose order is open. -/
structure DrawSound (P : Program) (E : Env) : Prop where
  plain : ∀ (Ds : List Deferred) (call : CallF) (_ : CallOK P E call) (_ : CP call) (base L lvl n : Nat) (ops : Array Oper) (l : List Oper) (ps : List (Nat × Nat)) (s : St) (s' : St) (c : Cx) (a : Act) (id : Nat),
    eraseL ops ops.toList = some l → drawOK ops l ps = true → aOps E call lvl n l s = some (.normal, s') → dynChk E call lvl n l s ps = true → HR base c → base ≤ c.w.heap.size → GOK E c → c.h = s.h → FR c n s.t a.tmps → a.defers = Ds →
    (Code.region id ops true).wp P (Post Ds L base n c .normal s') a c.w
  bar : ∀ (Ds : List Deferred) (call sc : CallF) (_ : CallOK P E call) (_ : CallOK P E sc) (_ : CP sc) (base L lvl n : Nat) (ops : Array Oper) (l : List Oper) (ps : List (Nat × Nat)) (k : Nat) (s : St) (s' : St) (c : Cx) (a : Act) (id : Nat),
    eraseL ops ops.toList = some l → drawOK ops l ps = true → barOf true ps = some k → barX E call sc lvl n l k s = some (.normal, s') → HR base c → base ≤ c.w.heap.size → GOK E c → c.h = s.h → FR c n s.t a.tmps → a.defers = Ds →
    (Code.region id ops true).wp P (Post Ds L base n c .normal s') a c.w

theorem eraseL_get {ops : Array Oper} : ∀ {l : List Oper} {l' : List Oper}, eraseL ops l = some l' → l'.length = l.length ∧ ∀ i, i < l.length → ∃ o o', l[i]? = some o ∧ l'[i]? = some o' ∧ eraseOp ops o = some o'
  | [], l', h => by simp [eraseL] at h; subst h; simp
  | o :: r, l', h => by
    simp only [eraseL] at h
    split at h
    · rename_i x l e1 e2
      cases h
      obtain ⟨h1, h2⟩ := eraseL_get e2
      refine ⟨by simp [h1], fun i hi => ?_⟩
      cases i with
      | zero => exact ⟨o, x, rfl, rfl, e1⟩
      | succ i => simpa using h2 i (by simpa using hi)
    · cases h

theorem wp_loop_fuel {P : Program} {c : Code} {Q : Exit → Act → World → Prop} (I : Nat → Act → World → Prop)
    (round : ∀ k a w, I k a w → c.wp P (Exit.then (fun a' w' => ∃ k', k' < k ∧ I k' a' w') Q) a w) (k : Nat) (a : Act) (w : World) (h : I k a w) : (Code.loop c).wp P Q a w := by
  intro b k0 cs
  have key : ∀ n k a w, k = n → I k a w → ∃ e a' w', Q e a' w' ∧ Arrives P (lone (b.at a (.code c :: .inLoop c :: k0)) cs w) b k0 cs e a' w' := by
    intro n
    induction n using Nat.strongRecOn with
    | _ n ih =>
      intro k a w hn hI
      obtain ⟨e, a₁, w₁, hq, harr⟩ := round k a w hI b (.inLoop c :: k0) cs
      cases e with
      | normal =>
        obtain ⟨k', hlt, hI₁⟩ := hq
        obtain ⟨e₂, a₂, w₂, hq₂, harr₂⟩ := ih k' (hn ▸ hlt) k' a₁ w₁ rfl hI₁
        exact ⟨e₂, a₂, w₂, hq₂, .of_steps (Steps.trans harr (.one step_inLoop)) harr₂⟩
      | exit id => exact ⟨_, a₁, w₁, hq, .pass (x := .inLoop c) rfl (fun _ _ => .inl (by simp)) harr⟩
      | goto l => exact ⟨_, a₁, w₁, hq, .pass (x := .inLoop c) rfl (fun _ _ => .inl (by simp)) harr⟩
      | ret => exact ⟨_, a₁, w₁, hq, .pass (x := .inLoop c) rfl (fun _ _ => .inl (by simp)) harr⟩
      | panic ch => exact ⟨_, a₁, w₁, hq, .pass (x := .inLoop c) rfl (fun _ _ => .inl (by simp)) harr⟩
      | outgrown => exact ⟨_, a₁, w₁, hq, .pass (x := .inLoop c) rfl (fun _ _ => .inl (by simp)) harr⟩
  obtain ⟨e, a', w', hq, harr⟩ := key k k a w rfl h
  exact ⟨e, a', w', hq, .of_steps (.one step_loop) harr⟩

theorem Post.seq {Ds L base n c c1 ex s' e a' w'} (X : ExtL L base c c1) (h : Post Ds L base n c1 ex s' e a' w') : Post Ds L base n c ex s' e a' w' := by
  obtain ⟨c2, q1, q2, q3, q4, q5⟩ := h
  exact ⟨c2, q1, q2, q3, X.trans q4, q5⟩

theorem aCode_sound {P E} (O : EnvOK P E) (D : DrawSound P E) {call sc : CallF} (C : CallOK P E call) (Cs : CallOK P E sc) (hCP : CP sc)
    {Ds : List Deferred} {base L lvl fuel : Nat} {fn : AFn} (hL : L = lvl) : ∀ (code code' : Code), eraseC fn.dyn code = some code' → ∀ (s : St) ex s', aCode E call sc fuel lvl fn code' s = some (ex, s') → ∀ (c : Cx) (a : Act), HR base c → base ≤ c.w.heap.size → GOK E c → c.h = s.h → FR c fn.ntmps s.t a.tmps → a.defers = Ds →
    code.wp P (Post Ds L base fn.ntmps c ex s') a c.w
  | .skip, code', he, s, ex, s', h, c, a, H, hb, G, hh, F, hd => by
    simp only [eraseC, Option.some.injEq] at he; subst he
    simp only [aCode, Option.some.injEq, Prod.mk.injEq] at h
    obtain ⟨rfl, rfl⟩ := h
    exact wp_skip ⟨c, rfl, hh, H, .refl _ _ _, F, hd, rfl⟩
  | .ret, code', he, s, ex, s', h, c, a, H, hb, G, hh, F, hd => by
    simp only [eraseC, Option.some.injEq] at he; subst he
    simp only [aCode, Option.some.injEq, Prod.mk.injEq] at h
    obtain ⟨rfl, rfl⟩ := h
    exact wp_ret ⟨c, rfl, hh, H, .refl _ _ _, F, hd, rfl⟩
  | .exit id, code', he, s, ex, s', h, c, a, H, hb, G, hh, F, hd => by
    simp only [eraseC, Option.some.injEq] at he; subst he
    simp only [aCode, Option.some.injEq, Prod.mk.injEq] at h
    obtain ⟨rfl, rfl⟩ := h
    exact wp_exit ⟨c, rfl, hh, H, .refl _ _ _, F, hd, rfl⟩
  | .region id ops draw, code', he, s, ex, s', h, c, a, H, hb, G, hh, F, hd => by
    simp only [eraseC] at he
    split at he
    case h_2 => cases he
    rename_i l hl
    split at he
    case isTrue => cases he
    rename_i hdr
    simp only [Option.some.injEq] at he; subst he
    simp only [aCode] at h
    split at h
    · -- one operation parts it
      rename_i k hk
      have hdt : draw = true := by
        cases draw with
        | true => rfl
        | false =>
          unfold barOf at hk
          split at hk
          · simp at hk
          · cases hk
      subst hdt
      cases hq : barX E call sc lvl fn.ntmps l.toArray.toList k s with
      | none => rw [hq] at h; simp [bindS] at h
      | some p =>
      obtain ⟨ex1, s1⟩ := p
      rw [hq] at h
      cases ex1 <;> simp only [bindS, reduceCtorEq, Option.some.injEq, Prod.mk.injEq] at h
      obtain ⟨rfl, rfl⟩ := h
      have hdo : drawOK ops l (fn.dyn id) = true := by simpa using hdr
      refine wp_mono (D.bar Ds call sc C Cs hCP base L lvl fn.ntmps ops l (fn.dyn id) k s s1 c a id hl hdo hk (by simpa using hq) H hb G hh F hd) ?_
      rintro e a' w' ⟨c1, q1, q2, q3, q4, q5, q6, q7⟩
      obtain ⟨c2, r1, r2, r3, r4, r5, r6⟩ := clean_sound (L := lvl) q3 (G.extL q4 H) q2 q5 (fn.keep id)
      subst hL
      exact ⟨c2, r1.trans q1, r2, r3, q4.trans r5, r6, q6, q7⟩
    rename_i hnb
    cases hr : aOps E (if draw = true then sc else call) lvl fn.ntmps l.toArray.toList s with
    | none => rw [hr] at h; simp at h
    | some p =>
      obtain ⟨ex1, s1⟩ := p
      rw [hr] at h
      simp only [List.toList_toArray] at hr
      -- how things stand behind the operations, then the cleaning
      have fin : ∀ e a' w', Post Ds L base fn.ntmps c ex1 s1 e a' w' → Post Ds L base fn.ntmps c ex s' e a' w' := by
        rintro e a' w' ⟨c1, q1, q2, q3, q4, q5, q6, q7⟩
        cases ex1 with
        | normal =>
          simp only at h
          split at h
          · cases h
          simp only [Option.some.injEq, Prod.mk.injEq] at h
          obtain ⟨rfl, rfl⟩ := h
          obtain ⟨c2, r1, r2, r3, r4, r5, r6⟩ := clean_sound (L := lvl) q3 (G.extL q4 H) q2 q5 (fn.keep id)
          subst hL
          exact ⟨c2, r1.trans q1, r2, r3, q4.trans r5, r6, q6, q7⟩
        | _ =>
          cases draw with
          | true => simp at h
          | false =>
            simp only [Bool.false_eq_true, if_false, Option.some.injEq, Prod.mk.injEq] at h
            obtain ⟨rfl, rfl⟩ := h
            exact ⟨c1, q1, q2, q3, q4, q5, q6, q7⟩
      refine wp_mono ?_ fin
      cases draw with
      | false =>
        simp only [Bool.false_eq_true, if_false] at hr
        refine wp_region ?_
        obtain ⟨g1, g2⟩ := eraseL_get hl
        exact aOps_sound O C (List.range ops.size) ops.toList l s ex1 s1 c c a (by
          apply List.ext_getElem?
          intro i
          rw [List.getElem?_map, List.getElem?_map]
          by_cases hi : i < ops.size
          · rw [List.getElem?_range hi]; simp [hi]
          · rw [List.getElem?_eq_none (by simpa using hi), List.getElem?_eq_none (by simpa using hi)]; rfl) g2 g1 hr H hb G hh F hd (.refl _ _ _)
      | true =>
        simp only [if_true] at hr
        have hdo : drawOK ops l (fn.dyn id) = true := by simpa using hdr
        cases ex1 with
        | normal =>
          have hdy : dynChk E sc lvl fn.ntmps l s (fn.dyn id) = true := by
            simp only [List.toList_toArray, Bool.true_and] at h
            cases hq : dynChk E sc lvl fn.ntmps l s (fn.dyn id) with
            | true => rfl
            | false => rw [hq] at h; simp at h
          exact D.plain Ds sc Cs hCP base L lvl fn.ntmps ops l (fn.dyn id) s s1 c a id hl hdo hr hdy H hb G hh F hd
        | _ =>
          cases draw_none : (true : Bool) with
          | true => simp at h
          | false => cases draw_none
  | .seq x y, code', he, s, ex, s', h, c, a, H, hb, G, hh, F, hd => by
    simp only [eraseC] at he
    split at he
    case h_2 => cases he
    rename_i x' y' ex' ey'
    simp only [Option.some.injEq] at he; subst he
    simp only [aCode] at h
    cases hr : aCode E call sc fuel lvl fn x' s with
    | none => rw [hr] at h; cases h
    | some p =>
      obtain ⟨ex1, s1⟩ := p
      rw [hr] at h
      refine wp_seq (wp_mono (aCode_sound O D C Cs hCP hL x x' ex' s ex1 s1 hr c a H hb G hh F hd) ?_)
      rintro e a' w' ⟨c1, rfl, q2, q3, q4, q5, q6, q7⟩
      cases ex1 with
      | normal =>
        obtain rfl := q7
        simp only at h
        exact wp_mono (aCode_sound O D C Cs hCP hL y y' ey' s1 ex s' h c1 a' q3 (Nat.le_trans hb q4.size) (G.extL q4 H) q2 q5 q6) fun e a w hp => hp.seq q4
      | exit i =>
        simp only [Option.some.injEq, Prod.mk.injEq] at h
        obtain ⟨rfl, rfl⟩ := h
        obtain rfl := q7
        exact ⟨c1, rfl, q2, q3, q4, q5, q6, rfl⟩
      | ret =>
        simp only [Option.some.injEq, Prod.mk.injEq] at h
        obtain ⟨rfl, rfl⟩ := h
        obtain rfl := q7
        exact ⟨c1, rfl, q2, q3, q4, q5, q6, rfl⟩
      | panic ch =>
        simp only [Option.some.injEq, Prod.mk.injEq] at h
        obtain ⟨rfl, rfl⟩ := h
        obtain ⟨chain, rfl, q8⟩ := q7
        exact ⟨c1, rfl, q2, q3, q4, q5, q6, chain, rfl, q8⟩
  | .cond cc x y, code', he, s, ex, s', h, c, a, H, hb, G, hh, F, hd => by
    simp only [eraseC] at he
    split at he
    case h_2 => cases he
    rename_i x' y' ex' ey'
    simp only [Option.some.injEq] at he; subst he
    simp only [aCode] at h
    cases ho : opd E s.t cc with
    | none => rw [ho] at h; cases h
    | some v =>
      rw [ho] at h
      cases v <;> simp only [reduceCtorEq] at h
      rename_i r
      have hv := opd_sound G F ho
      generalize hcv : a.eval cc = v at hv
      cases hv
      refine wp_cond hcv ?_
      cases r with
      | true => exact aCode_sound O D C Cs hCP hL x x' ex' s ex s' (by simpa using h) c a H hb G hh F hd
      | false => exact aCode_sound O D C Cs hCP hL y y' ey' s ex s' (by simpa using h) c a H hb G hh F hd
  | .block id b, code', he, s, ex, s', h, c, a, H, hb, G, hh, F, hd => by
    simp only [eraseC] at he
    obtain ⟨b', eb, rfl⟩ := map_some he
    simp only [aCode] at h
    cases hr : aCode E call sc fuel lvl fn b' s with
    | none => rw [hr] at h; cases h
    | some p =>
      obtain ⟨ex1, s1⟩ := p
      rw [hr] at h
      refine wp_block (wp_mono (aCode_sound O D C Cs hCP hL b b' eb s ex1 s1 hr c a H hb G hh F hd) ?_)
      rintro e a' w' ⟨c1, rfl, q2, q3, q4, q5, q6, q7⟩
      cases ex1 with
      | normal =>
        simp only [Option.some.injEq, Prod.mk.injEq] at h
        obtain ⟨rfl, rfl⟩ := h
        obtain rfl := q7
        exact ⟨c1, rfl, q2, q3, q4, q5, q6, rfl⟩
      | exit i =>
        obtain rfl := q7
        simp only [Exit.inBlock] at h ⊢
        split at h
        · rename_i e
          simp only [Option.some.injEq, Prod.mk.injEq] at h
          obtain ⟨rfl, rfl⟩ := h
          rw [if_pos e]
          exact ⟨c1, rfl, q2, q3, q4, q5, q6, rfl⟩
        · rename_i e
          simp only [Option.some.injEq, Prod.mk.injEq] at h
          obtain ⟨rfl, rfl⟩ := h
          rw [if_neg e]
          exact ⟨c1, rfl, q2, q3, q4, q5, q6, rfl⟩
      | ret =>
        simp only [Option.some.injEq, Prod.mk.injEq] at h
        obtain ⟨rfl, rfl⟩ := h
        obtain rfl := q7
        exact ⟨c1, rfl, q2, q3, q4, q5, q6, rfl⟩
      | panic ch =>
        simp only [Option.some.injEq, Prod.mk.injEq] at h
        obtain ⟨rfl, rfl⟩ := h
        obtain ⟨chain, rfl, q8⟩ := q7
        exact ⟨c1, rfl, q2, q3, q4, q5, q6, chain, rfl, q8⟩
  | .loop b, code', he, s, ex, s', h, c, a, H, hb, G, hh, F, hd => by
    simp only [eraseC] at he
    obtain ⟨b', eb, rfl⟩ := map_some he
    simp only [aCode] at h
    let cl := cleanS lvl ((firstReg b').bind fn.head)
    let I : Nat → Act → World → Prop := fun k a' w' => ∃ s1 c1, aLoop (aCode E call sc fuel lvl fn b') cl k s1 = some (ex, s') ∧ c1.w = w' ∧ c1.h = s1.h ∧ HR base c1 ∧ ExtL L base c c1 ∧ FR c1 fn.ntmps s1.t a'.tmps ∧ a'.defers = Ds
    refine wp_loop_fuel I ?_ fuel a c.w ⟨s, c, h, rfl, hh, H, .refl _ _ _, F, hd⟩
    rintro k a1 w1 ⟨s1, c1, hk, rfl, q2, q3, q4, q5, q6⟩
    cases k with
    | zero => simp [aLoop] at hk
    | succ k =>
      simp only [aLoop] at hk
      obtain ⟨c2, r1, r2, r3, r4, r5, r6⟩ := clean_sound (L := lvl) q3 (G.extL q4 H) q2 q5 ((firstReg b').bind fn.head)
      cases hr : aCode E call sc fuel lvl fn b' (cl s1) with
      | none => rw [hr] at hk; cases hk
      | some p =>
        obtain ⟨ex1, s2⟩ := p
        rw [hr] at hk
        have X2 : ExtL L base c c2 := q4.trans (by subst hL; exact r5)
        rw [← r1]
        refine wp_mono (aCode_sound O D C Cs hCP hL b b' eb (cl s1) ex1 s2 hr c2 a1 r3 (Nat.le_trans hb X2.size) r4 r2 r6 q6) ?_
        rintro e a' w' ⟨c3, rfl, t2, t3, t4, t5, t6, t7⟩
        cases ex1 with
        | normal =>
          obtain rfl := t7
          exact ⟨k, Nat.lt_succ_self k, s2, c3, hk, rfl, t2, t3, X2.trans t4, t5, t6⟩
        | exit i =>
          simp only [Option.some.injEq, Prod.mk.injEq] at hk
          obtain ⟨rfl, rfl⟩ := hk
          obtain rfl := t7
          exact ⟨c3, rfl, t2, t3, X2.trans t4, t5, t6, rfl⟩
        | ret =>
          simp only [Option.some.injEq, Prod.mk.injEq] at hk
          obtain ⟨rfl, rfl⟩ := hk
          obtain rfl := t7
          exact ⟨c3, rfl, t2, t3, X2.trans t4, t5, t6, rfl⟩
        | panic ch =>
          simp only [Option.some.injEq, Prod.mk.injEq] at hk
          obtain ⟨rfl, rfl⟩ := hk
          obtain ⟨chain, rfl, q8⟩ := t7
          exact ⟨c3, rfl, t2, t3, X2.trans t4, t5, t6, chain, rfl, q8⟩
  | .rangeFunc .., code', he, s, ex, s', h, _, _, _, _, _, _, _, _ => by simp only [eraseC, Option.some.injEq] at he; subst he; simp [aCode] at h
  | .scope _, code', he, _, _, _, _, _, _, _, _, _, _, _, _ => by simp [eraseC] at he
  | .label _, code', he, _, _, _, _, _, _, _, _, _, _, _, _ => by simp [eraseC] at he
  | .goto _, code', he, _, _, _, _, _, _, _, _, _, _, _, _ => by simp [eraseC] at he
  | .refuse _, code', he, s, ex, s', h, _, _, _, _, _, _, _, _ => by simp only [eraseC, Option.some.injEq] at he; subst he; simp [aCode] at h

end Ab
