/- Two operations that have nothing to do with each other change places. Own work, no conditions. -/
import Derived.Test.YtbgmkcmailcciaaDoorB22
set_option linter.unusedVariables false
set_option linter.unusedSimpArgs false
namespace Ab
open Go

theorem genOf_setK' (k : Key) (o : AObj) (l s : Nat) : ∀ (h : Heap), genOf (setK h k o) l s = if k.1 = l ∧ k.2.1 = s then max (k.2.2 + 1) (genOf h l s) else genOf h l s
  | [] => by obtain ⟨a, b, g⟩ := k; simp [setK, genOf]
  | ((a, b, g), o') :: r => by
    obtain ⟨a', b', g'⟩ := k
    simp only [setK]
    split
    · rename_i e; cases e
      simp only [genOf]
      split
      · omega
      · rfl
    · simp only [genOf, genOf_setK' (a', b', g') o l s r]
      split <;> split <;> omega
theorem genOf_applyS (l s : Nat) : ∀ (us : List (Key × AObj)) (h : Heap), genOf (applyS h us) l s = max (genOf us l s) (genOf h l s)
  | [], h => by simp [applyS, genOf]
  | ((a, b, g), o) :: r, h => by
    simp only [applyS, genOf_applyS l s r, genOf_setK', genOf]
    split <;> omega
theorem genOf_le {us : List (Key × AObj)} {h : Heap} {l s : Nat} (hu : ∀ p ∈ us, (lookK h p.1).isSome = true ∨ ¬ (p.1.1 = l ∧ p.1.2.1 = s)) : genOf us l s ≤ genOf h l s := by
  induction us with
  | nil => simp [genOf]
  | cons p r ih =>
    obtain ⟨⟨a, b, g⟩, o⟩ := p
    have := ih fun p hp => hu p (by simp [hp])
    simp only [genOf]
    split
    · rename_i e
      obtain ⟨rfl, rfl⟩ := e
      rcases hu _ (List.mem_cons_self ..) with h1 | h1
      · obtain ⟨o2, h2⟩ := Option.isSome_iff_exists.1 h1
        have := genOf_gt h a b g o2 h2
        omega
      · exact absurd ⟨rfl, rfl⟩ h1
    · exact this

theorem appendA_nc {E lvl slot h t s x f args} (hr : appendA E lvl slot h t s x = some (.call f args)) : False := by
  unfold appendA at hr
  repeat' split at hr
  all_goals (first | cases hr | (simp at hr; done))
theorem copyA_nc {E h t d s f args} (hr : copyA E h t d s = some (.call f args)) : False := by
  unfold copyA at hr
  split at hr
  case h_2 => cases hr
  split at hr
  · dsimp only at hr
    split at hr
    · split at hr <;> cases hr
    · cases hr
  · cases hr
  · cases hr
theorem builtinA_nc {E lvl slot h b ts as f args} (hr : builtinA E lvl slot h b ts as = some (.call f args)) : False := by
  unfold builtinA at hr
  repeat' split at hr
  all_goals (first | cases hr | exact appendA_nc hr | exact copyA_nc hr | (obtain ⟨_, _, e⟩ := map_some hr; cases e) | (simp at hr; done))
theorem opdL_keys {E t} : ∀ {l : List Operand} {vs}, opdL E t l = some vs → ∀ k ∈ AV.keysL vs, ∃ x ∈ l, ∃ v, opd E t x = some v ∧ k ∈ v.keys
  | [], vs, h, k, hk => by simp only [opdL] at h; cases h; simp [AV.keysL] at hk
  | x :: l, vs, h, k, hk => by
    simp only [opdL] at h
    split at h
    · rename_i y ys e1 e2
      cases h
      simp only [AV.keysL, List.mem_append] at hk
      rcases hk with hk | hk
      · exact ⟨x, by simp, y, e1, hk⟩
      · obtain ⟨z, z1, z2⟩ := opdL_keys e2 k hk
        exact ⟨z, by simp [z1], z2⟩
    · cases h
theorem keysL_app : ∀ (a b : List AV), AV.keysL (a ++ b) = AV.keysL a ++ AV.keysL b
  | [], b => rfl
  | x :: a, b => by simp [AV.keysL, keysL_app a b]
/-- What a call gets is led to by what it reads. -/
theorem aOp_call {E lvl t h o f args} (hr : aOp E lvl t h o = some (.call f args)) : clsOf o.op = 1 ∧ ∀ k ∈ AV.keysL args, k ∈ keysOp E t o := by
  cases e : o.op with
  | call c =>
    simp only [aOp, e] at hr
    split at hr
    · rename_i fo as h1 h2
      split at hr
      case h_2 => cases hr
      rename_i g first cap hf
      unfold callA at hr
      split at hr
      · obtain ⟨_, _, e⟩ := map_some hr; cases e
      cases hr
      refine ⟨by obtain ⟨cl, _⟩ := c; cases h1; rfl, fun k hk => ?_⟩
      rw [keysL_app, keysL_app] at hk
      simp only [List.mem_append] at hk
      rcases hk with (hk | hk) | hk
      · exact keysOp_mem (x := fo) (by simp [e, Op.operands, Call.operands, h1]) hf k (by simp [AV.keys, hk])
      · obtain ⟨x, x1, v, x2, x3⟩ := opdL_keys h2 k hk
        exact keysOp_mem (x := x) (by simp [e, Op.operands, Call.operands, h1] at x1 ⊢; exact .inr x1) x2 k x3
      · exact keysOp_mem (x := fo) (by simp [e, Op.operands, Call.operands, h1]) hf k (by simp [AV.keys, hk])
    · exact (builtinA_nc hr).elim
    · cases hr
  | _ =>
    exfalso
    simp only [aOp, e] at hr
    repeat' split at hr
    all_goals (first | (rename_i he; cases he; done) | cases hr | (rename_i he _ _ _; cases he; done) | contradiction | (obtain ⟨_, _, e⟩ := map_some hr; cases e; done) | (simp at hr; done))
/-- One operation, where no call may look at the heap. -/
def stepD (E : Env) (call : CallF) (lvl n : Nat) (o : Oper) (s : St) : Option St :=
  match aOps E call lvl n [o] s with
  | some (.normal, s') => some s'
  | _ => none

theorem aOps_cons {E call lvl n o r s s'} : aOps E call lvl n (o :: r) s = some (.normal, s') ↔ ∃ s1, stepD E call lvl n o s = some s1 ∧ aOps E call lvl n r s1 = some (.normal, s') := by
  unfold stepD
  simp only [aOps]
  cases hw : wantedA s.t o with
  | none => simp
  | some b =>
    cases b with
    | false =>
      cases hp : putT n s.t o.dst (.tup []) with
      | none => simp [hp]
      | some t1 => simp [hp]
    | true =>
      cases ho : aOp E lvl s.t s.h o with
      | none => simp [ho]
      | some q =>
        cases q with
        | val v h => cases hp : putT n s.t o.dst v <;> simp [ho, hp]
        | skip h => cases hp : putT n s.t o.dst (.tup []) <;> simp [ho, hp]
        | panic v => simp [ho]
        | call f args =>
          cases hc : call (o.dst.getD 0) f args s.h with
          | none => simp [ho, hc]
          | some p =>
            obtain ⟨r', h⟩ := p
            cases r' with
            | ret v => cases hp : putT n s.t o.dst v <;> simp [ho, hc, hp]
            | panic ch => simp [ho, hc]

structure AgreeS (E : Env) (lvl : Nat) (s s2 : St) (o : Oper) : Prop where
  op : Agree E lvl s.t s.h s2.t s2.h o
  guard : ∀ d w, o.guard = some (d, w) → lookT s2.t d = lookT s.t d

def Foot (E : Env) (lvl : Nat) (s : St) (o : Oper) (us : List (Key × AObj)) : Prop :=
  ∀ p ∈ us, (p.1 ∈ keysOp E s.t o ∧ clsOf o.op = 3 ∧ (lookK s.h p.1).isSome = true) ∨ (p.1 = (lvl, o.dst.getD 0, genOf s.h lvl (o.dst.getD 0)) ∧ 2 ≤ clsOf o.op)

theorem putT_n {n t t2 d v t'} (h : putT n t d v = some t') : ∃ t2', putT n t2 d v = some t2' := by
  unfold putT at h ⊢
  cases d with
  | none => exact ⟨t2, rfl⟩
  | some d =>
    simp only at h ⊢
    split at h
    · rename_i hd; rw [if_pos hd]; exact ⟨_, rfl⟩
    · cases h
theorem putT_look {n t d v t'} (h : putT n t d v = some t') (i : Nat) : lookT t' i = if d = some i then some v else lookT t i := by
  unfold putT at h
  cases d with
  | none => cases h; simp
  | some d =>
    simp only at h
    split at h
    · cases h; rw [lookT_cons]; simp
    · cases h

theorem wanted_agree {t t2 : Fr} {o : Oper} (h : ∀ d w, o.guard = some (d, w) → lookT t2 d = lookT t d) : wantedA t2 o = wantedA t o := by
  unfold wantedA
  cases e : o.guard with
  | none => rfl
  | some p => obtain ⟨d, w⟩ := p; simp only; rw [h d w e]

theorem step_loc {E call lvl n o s s'} (C : CP call) (h : stepD E call lvl n o s = some s') :
    ∃ (v : AV) (us : List (Key × AObj)), putT n s.t o.dst v = some s'.t ∧ s'.h = applyS s.h us ∧ Foot E lvl s o us ∧
      ∀ s2, AgreeS E lvl s s2 o → ∃ s2', stepD E call lvl n o s2 = some s2' ∧ putT n s2.t o.dst v = some s2'.t ∧ s2'.h = applyS s2.h us := by
  unfold stepD at h
  simp only [aOps] at h
  cases hw : wantedA s.t o with
  | none => rw [hw] at h; simp at h
  | some b =>
    rw [hw] at h
    cases b with
    | false =>
      simp only at h
      cases hp : putT n s.t o.dst (.tup []) with
      | none => rw [hp] at h; simp at h
      | some t1 =>
        rw [hp] at h
        simp only [Option.bind_some, Option.some.injEq] at h
        subst h
        refine ⟨.tup [], [], hp, rfl, (fun p hp => by cases hp), fun s2 ag => ?_⟩
        obtain ⟨t2, h2⟩ := putT_n (t2 := s2.t) hp
        refine ⟨⟨t2, s2.h⟩, ?_, h2, rfl⟩
        unfold stepD
        simp only [aOps, wanted_agree ag.guard, hw, h2, Option.bind_some]
    | true =>
      simp only at h
      cases ho : aOp E lvl s.t s.h o with
      | none => rw [ho] at h; simp at h
      | some q =>
        rw [ho] at h
        obtain ⟨us, u1, u2, u3⟩ := aOp_loc ho
        have foot : Foot E lvl s o us := fun p hp => (u1 p hp).imp id fun g => ⟨g.1, g.2.1⟩
        cases q with
        | panic v => simp at h
        | val v h1 =>
          simp only at h
          cases hp : putT n s.t o.dst v with
          | none => rw [hp] at h; simp at h
          | some t1 =>
            rw [hp] at h
            simp only [Option.bind_some, Option.some.injEq] at h
            subst h
            refine ⟨v, us, hp, u2, foot, fun s2 ag => ?_⟩
            obtain ⟨t2, h2⟩ := putT_n (t2 := s2.t) hp
            refine ⟨⟨t2, applyS s2.h us⟩, ?_, h2, rfl⟩
            unfold stepD
            simp only [aOps, wanted_agree ag.guard, hw, u3 s2.t s2.h ag.op, withH, h2, Option.bind_some]
        | skip h1 =>
          simp only at h
          cases hp : putT n s.t o.dst (.tup []) with
          | none => rw [hp] at h; simp at h
          | some t1 =>
            rw [hp] at h
            simp only [Option.bind_some, Option.some.injEq] at h
            subst h
            refine ⟨.tup [], us, hp, u2, foot, fun s2 ag => ?_⟩
            obtain ⟨t2, h2⟩ := putT_n (t2 := s2.t) hp
            refine ⟨⟨t2, applyS s2.h us⟩, ?_, h2, rfl⟩
            unfold stepD
            simp only [aOps, wanted_agree ag.guard, hw, u3 s2.t s2.h ag.op, withH, h2, Option.bind_some]
        | call f args =>
          simp only at h
          cases hc : call (o.dst.getD 0) f args s.h with
          | none => rw [hc] at h; simp at h
          | some p =>
            obtain ⟨r', h1⟩ := p
            rw [hc] at h
            cases r' with
            | panic ch => simp at h
            | ret v =>
              simp only at h
              cases hp : putT n s.t o.dst v with
              | none => rw [hp] at h; simp at h
              | some t1 =>
                rw [hp] at h
                simp only [Option.bind_some, Option.some.injEq] at h
                subst h
                obtain ⟨cls, ksub⟩ := aOp_call ho
                obtain ⟨e1, e2⟩ := C _ f args s.h v h1 hc
                refine ⟨v, [], hp, e1, (fun p hp => by cases hp), fun s2 ag => ?_⟩
                obtain ⟨t2, h2⟩ := putT_n (t2 := s2.t) hp
                refine ⟨⟨t2, s2.h⟩, ?_, h2, rfl⟩
                have hcall : call (o.dst.getD 0) f args s2.h = some (.ret v, s2.h) := e2 s2.h fun k hk => (ag.op.heap.resolve_left (by omega)).resolve_left (by omega) k (ksub k hk)
                have := u3 s2.t s2.h ag.op
                unfold stepD
                simp only [aOps, wanted_agree ag.guard, hw, this, withH, hcall, h2, Option.bind_some]

/-- Two states that read alike. -/
structure Eqv (s s2 : St) : Prop where
  t : ∀ i, lookT s2.t i = lookT s.t i
  h : ∀ k, lookK s2.h k = lookK s.h k
  g : ∀ l q, genOf s2.h l q = genOf s.h l q
theorem Eqv.refl (s : St) : Eqv s s := ⟨fun _ => rfl, fun _ => rfl, fun _ _ => rfl⟩
theorem Eqv.trans {a b c} (h : Eqv a b) (k : Eqv b c) : Eqv a c := ⟨fun i => (k.t i).trans (h.t i), fun i => (k.h i).trans (h.h i), fun l q => (k.g l q).trans (h.g l q)⟩

theorem opd_look {E t t2} {x : Operand} (h : ∀ i, x = .tmp i → lookT t2 i = lookT t i) : opd E t2 x = opd E t x := by
  cases x with
  | tmp i => exact h i rfl
  | _ => rfl

theorem step_cong {E call lvl n o s s' s2} (C : CP call) (h : stepD E call lvl n o s = some s') (e : Eqv s s2) : ∃ s2', stepD E call lvl n o s2 = some s2' ∧ Eqv s' s2' := by
  obtain ⟨v, us, h1, h2, h3, h4⟩ := step_loc C h
  obtain ⟨s2', g1, g2, g3⟩ := h4 s2 ⟨⟨fun x _ => opd_look fun i _ => e.t i, .inr (.inr fun k _ => e.h k), .inr (e.g _ _)⟩, fun d w _ => e.t d⟩
  refine ⟨s2', g1, fun i => ?_, fun k => ?_, fun l q => ?_⟩
  · rw [putT_look g2, putT_look h1, e.t]
  · rw [g3, h2, lookK_applyS, lookK_applyS, e.h]
  · rw [g3, h2, genOf_applyS, genOf_applyS, e.g]
theorem run_cong {E call lvl n} (C : CP call) : ∀ {l s s' s2}, aOps E call lvl n l s = some (.normal, s') → Eqv s s2 → ∃ s2', aOps E call lvl n l s2 = some (.normal, s2') ∧ Eqv s' s2'
  | [], s, s', s2, h, e => by simp only [aOps, Option.some.injEq, Prod.mk.injEq, true_and] at h; subst h; exact ⟨s2, rfl, e⟩
  | o :: r, s, s', s2, h, e => by
    obtain ⟨s1, h1, h2⟩ := aOps_cons.1 h
    obtain ⟨s3, h3, h4⟩ := step_cong C h1 e
    obtain ⟨s4, h5, h6⟩ := run_cong C h2 h4
    exact ⟨s4, aOps_cons.2 ⟨s3, h3, h5⟩, h6⟩

/-- What a frame leads to is there. -/
def Wf (s : St) : Prop := ∀ i v, lookT s.t i = some v → ∀ k ∈ v.keys, (lookK s.h k).isSome = true

theorem keysL_inv {l : List AV} {k : Key} (h : k ∈ AV.keysL l) : ∃ x ∈ l, k ∈ x.keys := by
  induction l with
  | nil => simp [AV.keysL] at h
  | cons x l ih =>
    simp only [AV.keysL, List.mem_append] at h
    rcases h with h | h
    · exact ⟨x, by simp, h⟩
    · obtain ⟨y, h1, h2⟩ := ih h; exact ⟨y, by simp [h1], h2⟩
mutual
theorem ofV_keys : ∀ (v : Value) (x : AV), ofV v = some x → x.keys = []
  | .int k n, x, h => by simp [ofV] at h; subst h; rfl
  | .bool b, x, h => by simp [ofV] at h; subst h; rfl
  | .string s, x, h => by simp only [ofV, Option.some.injEq] at h; subst h; rfl
  | .slice a l cap, x, h => by
    cases a with
    | none =>
      cases l with
      | zero => cases cap with
        | zero => simp [ofV] at h; subst h; rfl
        | succ n => simp [ofV] at h
      | succ n => simp [ofV] at h
    | some a => simp [ofV] at h
  | .pointer a, x, h => by
    cases a with
    | none => simp [ofV] at h; subst h; rfl
    | some a => simp [ofV] at h
  | .nilFunc, x, h => by simp [ofV] at h; subst h; rfl
  | .nilIface, x, h => by simp [ofV] at h; subst h; rfl
  | .agg ⟨cs⟩, x, h => by
    simp only [ofV] at h
    cases e : ofVL cs with
    | none => simp [e] at h
    | some l =>
      simp only [e, Option.bind_some] at h
      split at h
      · cases h; simpa [AV.keys] using ofVL_keys cs l e
      · cases h
  | .tuple ⟨cs⟩, x, h => by
    simp only [ofV] at h
    cases e : ofVL cs with
    | none => simp [e] at h
    | some l =>
      simp only [e, Option.map_some, Option.some.injEq] at h
      subst h
      simpa [AV.keys] using ofVL_keys cs l e
  | .float .., x, h => by simp [ofV] at h
  | .complex .., x, h => by simp [ofV] at h
  | .map .., x, h => by simp [ofV] at h
  | .chan .., x, h => by simp [ofV] at h
  | .func .., x, h => by simp [ofV] at h
  | .iface .., x, h => by simp [ofV] at h
theorem ofVL_keys : ∀ (vs : List Value) (xs : List AV), ofVL vs = some xs → AV.keysL xs = []
  | [], xs, h => by simp [ofVL] at h; subst h; rfl
  | v :: r, xs, h => by
    simp only [ofVL] at h
    split at h
    · rename_i x l e1 e2
      cases h
      simp [AV.keysL, ofV_keys v x e1, ofVL_keys r l e2]
    · cases h
end
theorem Wf.keysOp {s : St} (w : Wf s) {E o k} (h : k ∈ keysOp E s.t o) : (lookK s.h k).isSome = true := by
  obtain ⟨x, h1, h2⟩ := keysL_inv h
  obtain ⟨y, h3, h4⟩ := List.mem_filterMap.1 h1
  cases y with
  | tmp i => exact w i x h4 k h2
  | const v => rw [ofV_keys v x h4] at h2; cases h2
  | func f => simp [opd] at h4; subst h4; simp [AV.keys, AV.keysL] at h2
  | global g =>
    simp only [opd] at h4
    obtain ⟨cs, _, rfl⟩ := map_some h4
    simp [AV.keys] at h2

theorem apart_iff {a b : Oper} (h : apart a b = true) : (∀ d, a.dst = some d → d ∉ namesOf b) ∧ (∀ d, b.dst = some d → d ∉ namesOf a) ∧ (clsOf a.op = 3 → clsOf b.op = 0 ∨ clsOf b.op = 2) ∧ (clsOf b.op = 3 → clsOf a.op = 0 ∨ clsOf a.op = 2) ∧
    (2 ≤ clsOf a.op → 2 ≤ clsOf b.op → a.dst.getD 0 ≠ b.dst.getD 0) ∧ (∀ d w, b.guard = some (d, w) → a.dst ≠ some d) ∧ (∀ d w, a.guard = some (d, w) → b.dst ≠ some d) := by
  unfold apart at h
  simp only [Bool.and_eq_true] at h
  obtain ⟨⟨⟨⟨⟨⟨h1, h2⟩, h3⟩, h4⟩, h5⟩, h6⟩, h7⟩ := h
  refine ⟨fun d hd => ?_, fun d hd => ?_, fun hc => ?_, fun hc => ?_, fun ha hb => ?_, fun d w hg => ?_, fun d w hg => ?_⟩
  · rw [hd] at h1; simpa using h1
  · rw [hd] at h2; simpa using h2
  · simp [hc] at h3; exact h3
  · simp [hc] at h4; exact h4
  · simp only [Bool.or_eq_true, decide_eq_true_eq, bne_iff_ne, ne_eq] at h5
    rcases h5 with (h5 | h5) | h5
    · omega
    · omega
    · exact h5
  · rw [hg] at h6; simpa using h6
  · rw [hg] at h7; simpa using h7

theorem apartN_iff {a b : Oper} (h : apartN a b = true) : (∀ d, a.dst = some d → d ∉ namesOf b) ∧ (∀ d, b.dst = some d → d ∉ namesOf a) ∧
    (2 ≤ clsOf a.op → 2 ≤ clsOf b.op → a.dst.getD 0 ≠ b.dst.getD 0) ∧ (∀ d w, b.guard = some (d, w) → a.dst ≠ some d) ∧ (∀ d w, a.guard = some (d, w) → b.dst ≠ some d) := by
  unfold apartN at h
  simp only [Bool.and_eq_true] at h
  obtain ⟨⟨⟨⟨h1, h2⟩, h5⟩, h6⟩, h7⟩ := h
  refine ⟨fun d hd => ?_, fun d hd => ?_, fun ha hb => ?_, fun d w hg => ?_, fun d w hg => ?_⟩
  · rw [hd] at h1; simpa using h1
  · rw [hd] at h2; simpa using h2
  · simp only [Bool.or_eq_true, decide_eq_true_eq, bne_iff_ne, ne_eq] at h5
    rcases h5 with (h5 | h5) | h5
    · omega
    · omega
    · exact h5
  · rw [hg] at h6; simpa using h6
  · rw [hg] at h7; simpa using h7
theorem apart_N {a b : Oper} (h : apart a b = true) : apartN a b = true := by
  unfold apart at h
  unfold apartN
  simp only [Bool.and_eq_true] at h ⊢
  obtain ⟨⟨⟨⟨⟨⟨h1, h2⟩, h3⟩, h4⟩, h5⟩, h6⟩, h7⟩ := h
  exact ⟨⟨⟨⟨h1, h2⟩, h5⟩, h6⟩, h7⟩
/-- Neither turns what the other one looks at or turns. -/
def ClsP (a b : Oper) : Prop := (clsOf a.op = 3 → clsOf b.op = 0 ∨ clsOf b.op = 2) ∧ (clsOf b.op = 3 → clsOf a.op = 0 ∨ clsOf a.op = 2)
theorem apart_P {a b : Oper} (h : apart a b = true) : ClsP a b := by
  obtain ⟨_, _, c1, c2, _⟩ := apart_iff h
  exact ⟨c1, c2⟩

theorem names_opd {E : Env} {o : Oper} {n t d v t'} (hp : putT n t d v = some t') (hd : ∀ x, d = some x → x ∉ namesOf o) : ∀ x ∈ o.op.operands.toList, opd E t' x = opd E t x := by
  intro x hx
  refine opd_look fun i hi => ?_
  rw [putT_look hp]
  split
  · rename_i e
    exfalso
    refine hd i e ?_
    unfold namesOf
    rw [List.mem_append]
    exact .inr (List.mem_filterMap.2 ⟨x, hx, by rw [hi]⟩)
  · rfl

theorem keysOp_same {E t t2 o} (h : ∀ x ∈ o.op.operands.toList, opd E t2 x = opd E t x) : keysOp E t2 o = keysOp E t o := by
  unfold keysOp opVals
  congr 1
  have : ∀ l : List Operand, (∀ x ∈ l, opd E t2 x = opd E t x) → l.filterMap (opd E t2) = l.filterMap (opd E t) := by
    intro l
    induction l with
    | nil => intro _; rfl
    | cons x l ih => intro hl; simp only [List.filterMap_cons, hl x (by simp), ih fun y hy => hl y (by simp [hy])]
  exact this _ h

theorem swap {E call lvl n a b s s1 s12} (C : CP call) (w : Wf s) (ab : apartN a b = true) (hd : ClsP a b ∨ ∀ k ∈ keysOp E s.t a, k ∉ keysOp E s1.t b) (h1 : stepD E call lvl n a s = some s1) (h2 : stepD E call lvl n b s1 = some s12) :
    ∃ s2 s21, stepD E call lvl n b s = some s2 ∧ stepD E call lvl n a s2 = some s21 ∧ Eqv s12 s21 ∧ keysOp E s1.t b = keysOp E s.t b ∧ keysOp E s2.t a = keysOp E s.t a := by
  obtain ⟨n1, n2, sl, g1, g2⟩ := apartN_iff ab
  obtain ⟨va, ua, a1, a2, a3, a4⟩ := step_loc C h1
  obtain ⟨vb, ub, b1, b2, b3, b4⟩ := step_loc C h2
  -- the one operation's operands don't lie where the other one writes
  have oab := names_opd (E := E) (o := b) a1 n1
  have kb : keysOp E s1.t b = keysOp E s.t b := keysOp_same oab
  have pres : ∀ k, (lookK s.h k).isSome = true → (lookK s1.h k).isSome = true := by
    intro k hk
    rw [a2, lookK_applyS]
    cases lookU ua k with
    | some o => rfl
    | none => exact hk
  have freshA : ∀ p ∈ ua, p.1 = (lvl, a.dst.getD 0, genOf s.h lvl (a.dst.getD 0)) → lookK s.h p.1 = none := fun p _ e => by rw [e]; exact lookK_fresh _ _ _
  have freshB : ∀ p ∈ ub, p.1 = (lvl, b.dst.getD 0, genOf s1.h lvl (b.dst.getD 0)) → lookK s1.h p.1 = none := fun p _ e => by rw [e]; exact lookK_fresh _ _ _
  have uaNo : clsOf b.op = 1 ∨ 3 ≤ clsOf b.op → ∀ k ∈ keysOp E s.t b, lookU ua k = none := fun hc k hk => lookU_none fun p hp e => by
    rcases a3 p hp with ⟨q0, q2, _⟩ | ⟨q1, _⟩
    · rcases hd with ⟨c1, _⟩ | hd
      · have := c1 q2; omega
      · exact hd p.1 q0 (by rw [kb, e]; exact hk)
    · have h3 := freshA p hp q1
      have h4 := w.keysOp hk
      rw [← e, h3] at h4; cases h4
  have cls4 : ∀ o : Op, clsOf o = 0 ∨ clsOf o = 1 ∨ clsOf o = 2 ∨ clsOf o = 3 ∨ clsOf o = 4 := by intro o; unfold clsOf; split <;> simp
  have gB : clsOf b.op < 2 ∨ genOf s.h lvl (b.dst.getD 0) = genOf s1.h lvl (b.dst.getD 0) := by
    by_cases hc : clsOf b.op < 2
    · exact .inl hc
    · refine .inr ?_
      rw [a2, genOf_applyS]
      have := genOf_le (us := ua) (h := s.h) (l := lvl) (s := b.dst.getD 0) fun p hp => by
        rcases a3 p hp with ⟨_, _, q3⟩ | ⟨q1, q2⟩
        · exact .inl q3
        · refine .inr fun ⟨_, e⟩ => sl q2 (by omega) ?_
          rw [q1] at e; exact e
      omega
  obtain ⟨s2, t1, t2, t3⟩ := b4 s ⟨⟨fun x hx => (oab x hx).symm, by
      rcases cls4 b.op with hc | hc | hc | hc | hc
      · exact .inl hc
      · refine .inr (.inr fun k hk => ?_)
        rw [kb] at hk
        rw [a2, lookK_applyS, uaNo (.inl hc) k hk]
      · exact .inr (.inl hc)
      · refine .inr (.inr fun k hk => ?_)
        rw [kb] at hk
        rw [a2, lookK_applyS, uaNo (.inr (by omega)) k hk]
      · refine .inr (.inr fun k hk => ?_)
        rw [kb] at hk
        rw [a2, lookK_applyS, uaNo (.inr (by omega)) k hk], gB⟩, fun d w' hg => by
      rw [putT_look a1, if_neg (g1 d w' hg)]⟩
  have oba := names_opd (E := E) (o := a) t2 n2
  have ubNo : clsOf a.op = 1 ∨ 3 ≤ clsOf a.op → ∀ k ∈ keysOp E s.t a, lookU ub k = none := fun hc k hk => lookU_none fun p hp e => by
    rcases b3 p hp with ⟨q0, q2, _⟩ | ⟨q1, _⟩
    · rcases hd with ⟨_, c2⟩ | hd
      · have := c2 q2; omega
      · exact hd p.1 (by rw [e]; exact hk) q0
    · have h3 := freshB p hp q1
      have h4 := pres _ (w.keysOp hk)
      rw [← e, h3] at h4; cases h4
  have gA : clsOf a.op < 2 ∨ genOf s2.h lvl (a.dst.getD 0) = genOf s.h lvl (a.dst.getD 0) := by
    by_cases hc : clsOf a.op < 2
    · exact .inl hc
    · refine .inr ?_
      rw [t3, genOf_applyS]
      have := genOf_le (us := ub) (h := s.h) (l := lvl) (s := a.dst.getD 0) fun p hp => by
        rcases b3 p hp with ⟨q1, _, _⟩ | ⟨q1, q2⟩
        · rw [kb] at q1; exact .inl (w.keysOp q1)
        · refine .inr fun ⟨_, e⟩ => sl (by omega) q2 ?_
          rw [q1] at e; exact e.symm
      omega
  obtain ⟨s21, r1, r2, r3⟩ := a4 s2 ⟨⟨oba, by
      rcases cls4 a.op with hc | hc | hc | hc | hc
      · exact .inl hc
      · exact .inr (.inr fun k hk => by rw [t3, lookK_applyS, ubNo (.inl hc) k hk])
      · exact .inr (.inl hc)
      · exact .inr (.inr fun k hk => by rw [t3, lookK_applyS, ubNo (.inr (by omega)) k hk])
      · exact .inr (.inr fun k hk => by rw [t3, lookK_applyS, ubNo (.inr (by omega)) k hk]), gA⟩, fun d w' hg => by
      rw [putT_look t2, if_neg (g2 d w' hg)]⟩
  refine ⟨s2, s21, t1, r1, ⟨fun i => ?_, fun k => ?_, fun l q => ?_⟩, kb, keysOp_same oba⟩
  · rw [putT_look r2, putT_look t2, putT_look b1, putT_look a1]
    by_cases e1 : a.dst = some i
    · by_cases e2 : b.dst = some i
      · exfalso
        refine n1 i e1 ?_
        unfold namesOf; simp [e2]
      · rw [if_pos e1, if_neg e2, if_pos e1]
    · rw [if_neg e1, if_neg e1]
  · rw [r3, t3, b2, a2]
    simp only [lookK_applyS]
    cases ea : lookU ua k with
    | none => cases lookU ub k <;> rfl
    | some oa =>
      cases eb : lookU ub k with
      | none => rfl
      | some ob =>
        exfalso
        have mem : ∀ (us : List (Key × AObj)) o, lookU us k = some o → ∃ p ∈ us, p.1 = k := by
          intro us
          induction us with
          | nil => intro o h; simp [lookU] at h
          | cons p r ih =>
            intro o h
            obtain ⟨q, x⟩ := p
            simp only [lookU] at h
            cases er : lookU r k with
            | some y => obtain ⟨p, p1, p2⟩ := ih y er; exact ⟨p, by simp [p1], p2⟩
            | none =>
              rw [er] at h
              simp only at h
              split at h
              · rename_i e; exact ⟨(q, x), by simp, e⟩
              · cases h
        obtain ⟨p, p1, p2⟩ := mem ua oa ea
        obtain ⟨q, q1, q2⟩ := mem ub ob eb
        rcases a3 p p1 with ⟨x1, x2, x3⟩ | ⟨x1, x2⟩
        · rcases b3 q q1 with ⟨y1, y2, y3⟩ | ⟨y1, y2⟩
          · rcases hd with ⟨c1, _⟩ | hd
            · have := c1 x2; omega
            · exact hd p.1 x1 (by rw [p2, ← q2]; exact y1)
          · have h3 := freshB q q1 y1
            have h4 := pres _ x3
            rw [p2, ← q2, h3] at h4; cases h4
        · rcases b3 q q1 with ⟨y1, y2, y3⟩ | ⟨y1, y2⟩
          · have h3 := freshA p p1 x1
            rw [kb] at y1
            have h4 := w.keysOp y1
            rw [q2, ← p2, h3] at h4; cases h4
          · refine sl x2 y2 ?_
            have : (lvl, a.dst.getD 0, genOf s.h lvl (a.dst.getD 0)) = (lvl, b.dst.getD 0, genOf s1.h lvl (b.dst.getD 0)) := by rw [← x1, ← y1, p2, q2]
            simp only [Prod.mk.injEq] at this
            exact this.2.1
  · rw [r3, t3, b2, a2]
    simp only [genOf_applyS]
    omega

end Ab
