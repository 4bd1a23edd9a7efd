/- More rounds tell the same. Own work, no conditions. -/
import Derived.Test.YtbgmkcmailcciaaDoorB26
set_option linter.unusedVariables false
set_option linter.unusedSimpArgs false
namespace Ab
open Go

def CallLe (c c' : CallF) : Prop := ∀ lvl f a h r, c lvl f a h = some r → c' lvl f a h = some r
theorem aOps_le {E lvl n} {c c' : CallF} (hc : CallLe c c') : ∀ {l s r}, aOps E c lvl n l s = some r → aOps E c' lvl n l s = some r
  | [], s, r, h => h
  | o :: l, s, r, h => by
    simp only [aOps] at h ⊢
    cases hw : wantedA s.t o with
    | none => rw [hw] at h; cases h
    | some b =>
      rw [hw] at h
      cases b with
      | false =>
        simp only at h ⊢
        cases hp : putT n s.t o.dst (.tup []) with
        | none => rw [hp] at h; cases h
        | some t => rw [hp] at h; exact aOps_le hc h
      | true =>
        simp only at h ⊢
        cases ho : aOp E lvl s.t s.h o with
        | none => rw [ho] at h; cases h
        | some q =>
          rw [ho] at h
          cases q with
          | val v g =>
            simp only at h ⊢
            cases hp : putT n s.t o.dst v with
            | none => rw [hp] at h; cases h
            | some t => rw [hp] at h; exact aOps_le hc h
          | skip g =>
            simp only at h ⊢
            cases hp : putT n s.t o.dst (.tup []) with
            | none => rw [hp] at h; cases h
            | some t => rw [hp] at h; exact aOps_le hc h
          | panic v => exact h
          | call f args =>
            simp only at h ⊢
            cases hcl : c (o.dst.getD 0) f args s.h with
            | none => rw [hcl] at h; cases h
            | some p =>
              rw [hcl] at h
              rw [hc _ _ _ _ _ hcl]
              obtain ⟨q, g⟩ := p
              cases q with
              | ret v =>
                simp only at h ⊢
                cases hp : putT n s.t o.dst v with
                | none => rw [hp] at h; cases h
                | some t => rw [hp] at h; exact aOps_le hc h
              | panic ch => exact h
theorem aLoop_le {b b' : St → Option (AExit × St)} {cl : St → St} (hb : ∀ s r, b s = some r → b' s = some r) : ∀ {k k' s r}, k ≤ k' → aLoop b cl k s = some r → aLoop b' cl k' s = some r
  | 0, k', s, r, _, h => by simp [aLoop] at h
  | k + 1, 0, s, r, hk, h => by omega
  | k + 1, k' + 1, s, r, hk, h => by
    simp only [aLoop] at h ⊢
    cases hq : b (cl s) with
    | none => rw [hq] at h; cases h
    | some p =>
      rw [hq] at h
      rw [hb _ _ hq]
      obtain ⟨e, s'⟩ := p
      cases e with
      | normal => exact aLoop_le hb (by omega) h
      | _ => exact h
theorem footL_le {E lvl n} {c c' : CallF} (hc : CallLe c c') : ∀ {l s r}, footL E c lvl n l s = some r → footL E c' lvl n l s = some r
  | [], s, r, h => h
  | o :: l, s, r, h => by
    simp only [footL] at h ⊢
    cases hq : aOps E c lvl n [o] s with
    | none => rw [hq] at h; cases h
    | some p =>
      obtain ⟨e, s1⟩ := p
      rw [hq] at h
      rw [aOps_le hc hq]
      cases e with
      | normal =>
        simp only at h ⊢
        cases hf : footL E c lvl n l s1 with
        | none => rw [hf] at h; cases h
        | some fs => rw [hf] at h; rw [footL_le hc hf]; exact h
      | _ => cases h
theorem dynChk_le {E lvl n} {c c' : CallF} (hc : CallLe c c') {l s} : ∀ {ps}, dynChk E c lvl n l s ps = true → dynChk E c' lvl n l s ps = true
  | [], _ => rfl
  | p :: ps, h => by
    simp only [dynChk] at h ⊢
    cases hf : footL E c lvl n l s with
    | none => rw [hf] at h; cases h
    | some fs => rw [hf] at h; rw [footL_le hc hf]; exact h
theorem bindS_le {x y : Option (AExit × St)} {f g : St → Option (AExit × St)} {r} (hxy : ∀ r, x = some r → y = some r) (hfg : ∀ s r, f s = some r → g s = some r) (h : bindS x f = some r) : bindS y g = some r := by
  unfold bindS at h ⊢
  split at h
  · rename_i s
    rw [hxy _ rfl]
    exact hfg s r h
  · cases h
theorem barX_le {E lvl n} {c c' d d' : CallF} (hc : CallLe c c') (hd : CallLe d d') {ops q s r} (h : barX E c d lvl n ops q s = some r) : barX E c' d' lvl n ops q s = some r := by
  unfold barX at h ⊢
  exact bindS_le (fun r => aOps_le hd) (fun s1 r1 => bindS_le (fun r => aOps_le hc) fun s2 r2 => bindS_le (fun r => aOps_le hd) fun s3 r3 e => e) h
theorem aCode_le {E lvl fn} {c c' d d' : CallF} {k k' : Nat} (hc : CallLe c c') (hd : CallLe d d') (hk : k ≤ k') : ∀ (code : Code) {s r}, aCode E c d k lvl fn code s = some r → aCode E c' d' k' lvl fn code s = some r
  | .skip, s, r, h => h
  | .ret, s, r, h => h
  | .exit _, s, r, h => h
  | .region id ops draw, s, r, h => by
    simp only [aCode] at h ⊢
    cases hbar : barOf draw (fn.dyn id) with
    | some q =>
      rw [hbar] at h
      simp only at h ⊢
      exact bindS_le (fun r => barX_le hc hd) (fun s r e => e) h
    | none =>
    rw [hbar] at h
    simp only at h ⊢
    have hc2 : CallLe (if draw = true then d else c) (if draw = true then d' else c') := by
      split
      · exact hd
      · exact hc
    cases hq : aOps E (if draw = true then d else c) lvl fn.ntmps ops.toList s with
    | none => rw [hq] at h; simp at h
    | some p =>
      rw [hq] at h
      rw [aOps_le hc2 hq]
      obtain ⟨e, s1⟩ := p
      cases e with
      | normal =>
        simp only at h ⊢
        split at h
        · cases h
        · rename_i hn
          rw [if_neg]
          · exact h
          · intro hb
            apply hn
            cases draw with
            | false => simp at hb
            | true =>
              simp only [Bool.true_and, Bool.not_eq_true'] at hb ⊢
              cases hx : dynChk E d lvl fn.ntmps ops.toList s (fn.dyn id) with
              | false => rfl
              | true => rw [dynChk_le hd hx] at hb; cases hb
      | _ => exact h
  | .seq a b, s, r, h => by
    simp only [aCode] at h ⊢
    cases hq : aCode E c d k lvl fn a s with
    | none => rw [hq] at h; cases h
    | some p =>
      rw [hq] at h
      rw [aCode_le hc hd hk a hq]
      obtain ⟨e, s'⟩ := p
      cases e with
      | normal => exact aCode_le hc hd hk b h
      | _ => exact h
  | .cond x a b, s, r, h => by
    simp only [aCode] at h ⊢
    split at h
    · rename_i v hv
      split at h
      · rename_i e; rw [if_pos e]; exact aCode_le hc hd hk a h
      · rename_i e; rw [if_neg e]; exact aCode_le hc hd hk b h
    · cases h
  | .block id b, s, r, h => by
    simp only [aCode] at h ⊢
    cases hq : aCode E c d k lvl fn b s with
    | none => rw [hq] at h; cases h
    | some p => rw [hq] at h; rw [aCode_le hc hd hk b hq]; exact h
  | .loop b, s, r, h => by
    simp only [aCode] at h ⊢
    exact aLoop_le (fun s r => aCode_le hc hd hk b) hk h
  | .rangeFunc .., s, r, h => h
  | .scope _, s, r, h => h
  | .label _, s, r, h => h
  | .goto _, s, r, h => h
  | .refuse _, s, r, h => h
theorem aCodes_le {E lvl fn} {c c' d d' : CallF} {k k' : Nat} (hc : CallLe c c') (hd : CallLe d d') (hk : k ≤ k') : ∀ {l : List Code} {s r}, aCodes E c d k lvl fn l s = some r → aCodes E c' d' k' lvl fn l s = some r
  | [], s, r, h => h
  | x :: l, s, r, h => by
    simp only [aCodes] at h ⊢
    cases hq : aCode E c d k lvl fn x s with
    | none => rw [hq] at h; cases h
    | some p =>
      rw [hq] at h
      rw [aCode_le hc hd hk x hq]
      obtain ⟨e, s'⟩ := p
      cases e with
      | normal => exact aCodes_le hc hd hk h
      | _ => exact h

def RunLe (r r' : RunF) : Prop := ∀ f a h x, r f a h = some x → r' f a h = some x
theorem some_le {α β : Type} {g : Option α → Option β} (h0 : g none = none) {x y : Option α} (hxy : ∀ r, x = some r → y = some r) {z} (h : g x = some z) : g y = some z := by
  cases x with
  | none => rw [h0] at h; cases h
  | some p => rw [hxy p rfl]; exact h
theorem sealed_le {r r' : RunF} (hr : RunLe r r') : CallLe (sealed r) (sealed r') := by
  intro s f a h x e
  unfold sealed at e ⊢
  cases hs : sealLW (sealA 20) h a with
  | none => rw [hs] at e; cases e
  | some q =>
    rw [hs] at e
    simp only at e ⊢
    split at e
    · rename_i hp; rw [if_pos hp]; exact some_le (g := sealR q.2) rfl (fun z => hr f q.1 [] z) e
    · cases e
theorem lookR_le {h : Heap} {x y : Option (ARes × Heap)} (hxy : ∀ r, x = some r → y = some r) {z} (e : lookR h x = some z) : lookR h y = some z := some_le (g := lookR h) rfl hxy e
theorem dcall_le {r r' : RunF} (hr : RunLe r r') : CallLe (dcall r) (dcall r') := by
  intro s f a h x e
  unfold dcall at e ⊢
  split at e
  · rename_i hp; rw [if_pos hp]; exact sealed_le hr s f a h x e
  · rename_i hp
    rw [if_neg hp]
    split at e
    case h_2 => cases e
    split at e
    · rename_i hq; rw [if_pos hq]; exact lookR_le (fun z => sealed_le hr 0 f _ h z) e
    · cases e
theorem lendA_le {ks slot h1 args sr} {r r' : List AV → Heap → Option (ARes × Heap)} (hr : ∀ a h x, r a h = some x → r' a h = some x) {x} (e : lendA ks slot h1 args sr r = some x) : lendA ks slot h1 args sr r' = some x := by
  unfold lendA at e ⊢
  split at e
  · split at e
    · rename_i hp; rw [if_pos hp]; exact some_le (g := backR ks slot h1 sr) rfl (fun z => hr _ _ z) e
    · cases e
  · cases e
theorem site_le {fn : AFn} {r r' : RunF} (hr : RunLe r r') : CallLe (site fn r) (site fn r') := by
  intro s f a h x e
  unfold site at e ⊢
  split at e
  · exact sealed_le hr s f a h x e
  · unfold opened at e ⊢
    split at e
    · exact lendA_le (hr f) e
    · cases e
theorem dfrA_le {E} {r r' : RunF} (hr : RunLe r r') {n n' gd v cv h x} (hn : n ≤ n') (e : dfrA E r n gd v cv h = some x) : dfrA E r' n' gd v cv h = some x := by
  unfold dfrA at e ⊢
  refine lendA_le (fun a h z q => ?_) e
  split at q
  · rename_i hp
    rw [if_pos hp]
    split at q
    · rename_i hq; rw [aCodes_le (site_le hr) (dcall_le hr) hn hq]; exact q
    · rename_i hq; rw [aCodes_le (site_le hr) (dcall_le hr) hn hq]; exact q
    · cases q
  · cases q
theorem grdR_le {E} {r r' : RunF} (hr : RunLe r r') {n n' fn gd cv} {x y : Option (AExit × St)} {z} (hn : n ≤ n') (hxy : ∀ r, x = some r → y = some r) (e : grdR E r n fn gd cv x = some z) : grdR E r' n' fn gd cv y = some z := by
  cases x with
  | none => simp [grdR] at e
  | some p =>
    rw [hxy p rfl]
    obtain ⟨ex, s⟩ := p
    unfold grdR at e ⊢
    split at e
    · rename_i hq; cases hq; exact some_le (g := grdE E fn s.t) rfl (fun z => dfrA_le hr hn) e
    · rename_i hq; cases hq; exact some_le (g := grdE E fn s.t) rfl (fun z => dfrA_le hr hn) e
    · rename_i hq
      cases hq
      split at e
      · rename_i hp; rw [if_pos hp]; exact some_le (g := grdE E fn s.t) rfl (fun z => dfrA_le hr hn) e
      · cases e
    · cases e
theorem grdP_le {E} {r r' : RunF} (hr : RunLe r r') {n n' fn gd} {x y : Option (AExit × St)} {z} (hn : n ≤ n') (hxy : ∀ r, x = some r → y = some r) (e : grdP E r n fn gd x = some z) : grdP E r' n' fn gd y = some z := by
  cases x with
  | none => simp [grdP] at e
  | some p =>
    rw [hxy p rfl]
    obtain ⟨ex, s⟩ := p
    unfold grdP at e ⊢
    split at e
    · rename_i hq
      cases hq
      split at e
      · split at e
        · split at e
          · rename_i hl
            rw [if_pos hl]
            exact grdR_le hr hn (fun r => aCodes_le (site_le hr) (dcall_le hr) hn) e
          · cases e
        · cases e
      · cases e
    · rename_i hq; cases hq; exact e
    · rename_i hq; cases hq; exact e
    · cases e

theorem aRun_le (E : Env) : ∀ n m, n ≤ m → RunLe (aRun E n) (aRun E m)
  | 0, m, _ => by intro f a h r e; simp [aRun] at e
  | n + 1, 0, hm => by omega
  | n + 1, m + 1, hm => by
    intro f a h r e
    simp only [aRun] at e ⊢
    cases hp : E.prim f with
    | some p => rw [hp] at e; exact e
    | none =>
      rw [hp] at e
      simp only at e ⊢
      cases hf : E.fn f with
      | none => rw [hf] at e; cases e
      | some fn =>
        rw [hf] at e
        simp only at e ⊢
        split at e
        case isFalse => cases e
        rename_i hl
        rw [if_pos hl]
        have hr := aRun_le E n m (by omega)
        cases hg : E.grd f with
        | none =>
          rw [hg] at e
          simp only at e ⊢
          exact some_le (g := finA E fn) rfl (fun r => aCode_le (site_le hr) (dcall_le hr) (by omega) _) e
        | some gd =>
          rw [hg] at e
          simp only at e ⊢
          exact grdP_le hr (by omega) (fun r => aCodes_le (site_le hr) (dcall_le hr) (by omega)) e
theorem aCall_le (E : Env) (n m : Nat) (h : n ≤ m) : CallLe (aCall E n) (aCall E m) := sealed_le (aRun_le E n m h)

/-- What a function of plain values answers: with N rounds or more. -/
abbrev Con (E : Env) (N : Nat) (f : FuncId) (args : List AV) (v : AV) : Prop := ∀ k, N ≤ k → ∀ slot h, aCall E k slot f args h = some (.ret v, h)
theorem Con.of {E : Env} {N f args v g} (hp : AV.pureL args = true) (h : aCall E N 0 f args [] = some (.ret v, g)) : Con E N f args v := by
  intro k hk slot h2
  obtain ⟨_, e⟩ := sealed_pure (aRun E N) 0 f args [] v g hp h
  exact aCall_le E N k hk _ _ _ _ _ (e h2)
theorem Con.mono {E : Env} {N M f args v} (h : Con E N f args v) (hm : N ≤ M) : Con E M f args v := fun k hk => h k (by omega)
/-- What a function comes to, handed things of its caller's. -/
abbrev Run (E : Env) (N : Nat) (f : FuncId) (args : List AV) (h : Heap) (r : ARes) (h' : Heap) : Prop := ∀ k, N ≤ k → aRun E k f args h = some (r, h')
theorem Run.of {E : Env} {N f args h r h'} (e : aRun E N f args h = some (r, h')) : Run E N f args h r h' := fun k hk => aRun_le E N k hk _ _ _ _ e
theorem Run.mono {E : Env} {N M f args h r h'} (e : Run E N f args h r h') (hm : N ≤ M) : Run E M f args h r h' := fun k hk => e k (by omega)
theorem Con.ofRun {E : Env} {N f args v v0 hf g} (hp : AV.pureL args = true) (h : Run E N f args [] (.ret v0) hf) (hs : sealA 20 hf v0 = some (v, g)) (hv : v.pure = true) : Con E N f args v := by
  refine .of (g := []) hp ?_
  show sealed (aRun E N) 0 f args [] = _
  unfold sealed
  rw [sealL_of_pure 19 args [] hp]
  simp only [hp, if_true, h N (Nat.le_refl _), sealR, hs, hv]

theorem site_none {fn : AFn} {run : RunF} (h : fn.opn = fun _ => none) : site fn run = sealed run := by
  funext s f a h'
  unfold site
  rw [h]
/-- A call of a function of the table. -/
theorem aRun_fn {E : Env} {f fn args k h} (h1 : E.prim f = none) (h2 : E.fn f = some fn) (h3 : E.grd f = none) (h4 : args.length ≤ fn.ntmps) :
    aRun E (k + 1) f args h = finA E fn (aCode E (site fn (aRun E k)) (dcall (aRun E k)) k 1 fn fn.body ⟨frame0 args 0, h⟩) := by
  simp only [aRun, h1, h2, h3, h4, if_true]
theorem aCall_fn {E : Env} {f fn args k slot h} (h1 : E.prim f = none) (h2 : E.fn f = some fn) (h3 : AV.pureL args = true) (h4 : args.length ≤ fn.ntmps) (h5 : E.grd f = none) (h6 : fn.opn = fun _ => none) :
    aCall E (k + 1) slot f args h = sealR h (finA E fn (aCode E (aCall E k) (dcall (aRun E k)) k 1 fn fn.body ⟨frame0 args 0, []⟩)) := by
  show sealed (aRun E (k + 1)) slot f args h = _
  unfold sealed
  rw [sealL_of_pure 19 args h h3]
  simp only [h3, if_true]
  rw [aRun_fn h1 h2 h5 h4, site_none h6]; rfl
/-- The same where it hands its own things on. -/
theorem aCall_fnO {E : Env} {f fn args k slot h} (h1 : E.prim f = none) (h2 : E.fn f = some fn) (h3 : AV.pureL args = true) (h4 : args.length ≤ fn.ntmps) (h5 : E.grd f = none) :
    aCall E (k + 1) slot f args h = sealR h (finA E fn (aCode E (site fn (aRun E k)) (dcall (aRun E k)) k 1 fn fn.body ⟨frame0 args 0, []⟩)) := by
  show sealed (aRun E (k + 1)) slot f args h = _
  unfold sealed
  rw [sealL_of_pure 19 args h h3]
  simp only [h3, if_true]
  rw [aRun_fn h1 h2 h5 h4]

end Ab
