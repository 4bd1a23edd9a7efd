/- More rounds tell the same. Own work, no conditions. -/
import Derived.Test.YtalmnhdnclmhbaaAb26
set_option linter.unusedVariables false
set_option linter.unusedSimpArgs false
namespace Ab
open Go

def CallLe (c c' : CallF) : Prop := ∀ lvl f a h r, c lvl f a h = some r → c' lvl f a h = some r
theorem pureCall_le {c c' : CallF} (h : CallLe c c') : CallLe (pureCall c) (pureCall c') := by
  intro lvl f a g r
  unfold pureCall
  split
  · exact h lvl f a g r
  · exact id
theorem aOps_le {E lvl n} {c c' : CallF} (hc : CallLe c c') : ∀ {l s r}, aOps E c lvl n l s = some r → aOps E c' lvl n l s = some r
  | [], s, r, h => h
  | o :: l, s, r, h => by
    simp only [aOps] at h ⊢
    cases hw : wantedA s.t o with
    | none => rw [hw] at h; cases h
    | some b =>
      rw [hw] at h
      cases b with
      | false =>
        simp only at h ⊢
        cases hp : putT n s.t o.dst (.tup []) with
        | none => rw [hp] at h; cases h
        | some t => rw [hp] at h; exact aOps_le hc h
      | true =>
        simp only at h ⊢
        cases ho : aOp E lvl s.t s.h o with
        | none => rw [ho] at h; cases h
        | some q =>
          rw [ho] at h
          cases q with
          | val v g =>
            simp only at h ⊢
            cases hp : putT n s.t o.dst v with
            | none => rw [hp] at h; cases h
            | some t => rw [hp] at h; exact aOps_le hc h
          | skip g =>
            simp only at h ⊢
            cases hp : putT n s.t o.dst (.tup []) with
            | none => rw [hp] at h; cases h
            | some t => rw [hp] at h; exact aOps_le hc h
          | panic v => exact h
          | call f args =>
            simp only at h ⊢
            cases hcl : c lvl f args s.h with
            | none => rw [hcl] at h; cases h
            | some p =>
              rw [hcl] at h
              rw [hc _ _ _ _ _ hcl]
              obtain ⟨q, g⟩ := p
              cases q with
              | ret v =>
                simp only at h ⊢
                cases hp : putT n s.t o.dst v with
                | none => rw [hp] at h; cases h
                | some t => rw [hp] at h; exact aOps_le hc h
              | panic ch => exact h
theorem aLoop_le {b b' : St → Option (AExit × St)} {cl : St → St} (hb : ∀ s r, b s = some r → b' s = some r) : ∀ {k k' s r}, k ≤ k' → aLoop b cl k s = some r → aLoop b' cl k' s = some r
  | 0, k', s, r, _, h => by simp [aLoop] at h
  | k + 1, 0, s, r, hk, h => by omega
  | k + 1, k' + 1, s, r, hk, h => by
    simp only [aLoop] at h ⊢
    cases hq : b (cl s) with
    | none => rw [hq] at h; cases h
    | some p =>
      rw [hq] at h
      rw [hb _ _ hq]
      obtain ⟨e, s'⟩ := p
      cases e with
      | normal => exact aLoop_le hb (by omega) h
      | _ => exact h
theorem aCode_le {E lvl fn} {c c' : CallF} {k k' : Nat} (hc : CallLe c c') (hk : k ≤ k') : ∀ (code : Code) {s r}, aCode E c k lvl fn code s = some r → aCode E c' k' lvl fn code s = some r
  | .skip, s, r, h => h
  | .ret, s, r, h => h
  | .exit _, s, r, h => h
  | .region id ops draw, s, r, h => by
    simp only [aCode] at h ⊢
    have hc2 : CallLe (if draw = true then pureCall c else c) (if draw = true then pureCall c' else c') := by
      split
      · exact pureCall_le hc
      · exact hc
    cases hq : aOps E (if draw = true then pureCall c else c) lvl fn.ntmps ops.toList s with
    | none => rw [hq] at h; simp at h
    | some p => rw [hq] at h; rw [aOps_le hc2 hq]; exact h
  | .seq a b, s, r, h => by
    simp only [aCode] at h ⊢
    cases hq : aCode E c k lvl fn a s with
    | none => rw [hq] at h; cases h
    | some p =>
      rw [hq] at h
      rw [aCode_le hc hk a hq]
      obtain ⟨e, s'⟩ := p
      cases e with
      | normal => exact aCode_le hc hk b h
      | _ => exact h
  | .cond x a b, s, r, h => by
    simp only [aCode] at h ⊢
    split at h
    · rename_i v hv
      split at h
      · rename_i e; rw [if_pos e]; exact aCode_le hc hk a h
      · rename_i e; rw [if_neg e]; exact aCode_le hc hk b h
    · cases h
  | .block id b, s, r, h => by
    simp only [aCode] at h ⊢
    cases hq : aCode E c k lvl fn b s with
    | none => rw [hq] at h; cases h
    | some p => rw [hq] at h; rw [aCode_le hc hk b hq]; exact h
  | .loop b, s, r, h => by
    simp only [aCode] at h ⊢
    exact aLoop_le (fun s r => aCode_le hc hk b) hk h
  | .rangeFunc .., s, r, h => h
  | .scope _, s, r, h => h
  | .label _, s, r, h => h
  | .goto _, s, r, h => h
  | .refuse _, s, r, h => h

theorem finA_le {E fn h1} {x y : Option (AExit × St)} (hxy : ∀ r, x = some r → y = some r) {r} (h : finA E fn h1 x = some r) : finA E fn h1 y = some r := by
  cases x with
  | none => simp [finA] at h
  | some p => rw [hxy p rfl]; exact h

theorem aCall_le (E : Env) : ∀ n m, n ≤ m → CallLe (aCall E n) (aCall E m)
  | 0, m, _ => by intro lvl f a h r e; simp [aCall] at e
  | n + 1, 0, hm => by omega
  | n + 1, m + 1, hm => by
    intro lvl f a h r e
    simp only [aCall] at e ⊢
    cases hp : E.prim f with
    | some p => rw [hp] at e; exact e
    | none =>
      rw [hp] at e
      simp only at e ⊢
      cases hf : E.fn f with
      | none => rw [hf] at e; cases e
      | some fn =>
        rw [hf] at e
        simp only at e ⊢
        cases hs : sealLW (sealA 20) h a with
        | none => rw [hs] at e; cases e
        | some q =>
          rw [hs] at e
          simp only at e ⊢
          split at e
          · rename_i hcond
            rw [if_pos hcond]
            exact finA_le (fun r => aCode_le (aCall_le E n m (by omega)) (by omega) _) e
          · cases e

/-- What a function of plain values answers: with N rounds or more. -/
abbrev Con (E : Env) (N : Nat) (f : FuncId) (args : List AV) (v : AV) : Prop := ∀ k, N ≤ k → ∀ lvl h, aCall E k lvl f args h = some (.ret v, h)
theorem Con.of {E : Env} {N f args v g} (hp : AV.pureL args = true) (h : aCall E N 0 f args [] = some (.ret v, g)) : Con E N f args v := by
  intro k hk lvl h2
  obtain ⟨_, e⟩ := aCall_pure E N 0 f args [] v g hp h
  have e2 := aCall_le E N k hk _ _ _ _ _ (e h2)
  cases k with
  | zero => simp [aCall] at e2
  | succ k => simp only [aCall] at e2 ⊢; exact e2
theorem Con.mono {E : Env} {N M f args v} (h : Con E N f args v) (hm : N ≤ M) : Con E M f args v := fun k hk => h k (by omega)

/-- A call of a function of the table. -/
theorem aCall_fn {E : Env} {f fn args k lvl h} (h1 : E.prim f = none) (h2 : E.fn f = some fn) (h3 : AV.pureL args = true) (h4 : args.length ≤ fn.ntmps) :
    aCall E (k + 1) lvl f args h = finA E fn h (aCode E (aCall E k) k 0 fn fn.body ⟨frame0 args 0, []⟩) := by
  simp only [aCall, h1, h2]
  rw [sealL_of_pure 19 args h h3]
  simp only [h3, h4, true_and, if_true]

end Ab
