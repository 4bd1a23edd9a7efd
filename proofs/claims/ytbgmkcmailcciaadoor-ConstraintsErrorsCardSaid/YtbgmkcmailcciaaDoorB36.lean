/- Calls of the evaluator are the model's. Own work, no conditions. -/
import Derived.Test.YtbgmkcmailcciaaDoorB20
import Derived.Recover
set_option linter.unusedVariables false
set_option linter.unusedSimpArgs false
namespace Ab
open Go

mutual
theorem rn_pure {φ : Key → Key} : ∀ (x : AV), x.pure = true → x.rn φ = x
  | .int .., _ => rfl
  | .bool _, _ => rfl
  | .str _, _ => rfl
  | .agg cs, h => by simp only [AV.rn]; rw [rnL_pure cs (by simpa [AV.pure] using h)]
  | .tup cs, h => by simp only [AV.rn]; rw [rnL_pure cs (by simpa [AV.pure] using h)]
  | .sl .., _ => rfl
  | .ref .., h => by simp [AV.pure] at h
  | .ptr .., h => by simp [AV.pure] at h
  | .pel _, _ => rfl
  | .nilp, _ => rfl
  | .fn _ a b, h => by
    simp only [AV.pure, Bool.and_eq_true] at h
    simp only [AV.rn]; rw [rnL_pure a h.1, rnL_pure b h.2]
  | .nilf, _ => rfl
  | .iface _ v, h => by simp only [AV.rn]; rw [rn_pure v (by simpa [AV.pure] using h)]
  | .nili, _ => rfl
theorem rnL_pure {φ : Key → Key} : ∀ (xs : List AV), AV.pureL xs = true → AV.rnL φ xs = xs
  | [], _ => rfl
  | x :: xs, h => by
    simp only [AV.pureL, Bool.and_eq_true] at h
    simp only [AV.rnL]; rw [rn_pure x h.1, rnL_pure xs h.2]
end

/-- What a call owes, whoever calls. -/
def RunOK (P : Program) (E : Env) (run : RunF) : Prop :=
  ∀ base c f args vals r h', run f args c.h = some (r, h') → HR base c → base ≤ c.w.heap.size → GOK E c → RVs c args vals →
    ∃ g vals', (callFunc f ⟨vals⟩).run P c.w = .ok (.enter g vals') c.w ∧ Calls P g vals' c.w fun e w' => ∃ c', c'.w = w' ∧ c'.h = h' ∧ HR base c' ∧ ExtL 1 base c c' ∧ ResR c' r e

theorem RVs.pure_mono {c c' : Cx} (hR : ∀ b, c.Rd b → c'.Rd b ∧ c'.w.heap[b]? = c.w.heap[b]?) {xs vs} (h : RVs c xs vs) (hp : AV.pureL xs = true) : RVs c' xs vs :=
  h.mono hR fun k hk => by rw [AV.keysL_pure xs hp] at hk; cases hk

theorem lendA_sound {E base c ks args vals slot sr run r h'} (H : HR base c) (hnd : ks.Nodup) (h : lendA ks slot c.h args sr run = some (r, h')) (hv : RVs c args vals) :
    ∃ hl, HR base (lentC c ks hl) ∧ RVs (lentC c ks hl) (AV.rnL (inK ks) args) vals ∧ (GOK E c → GOK E (lentC c ks hl)) ∧ (∀ x v, RV c x v → x.pure = true → RV (lentC c ks hl) x v) ∧ ∃ r0 hf, run (AV.rnL (inK ks) args) hl = some (r0, hf) ∧
      ∀ c1, c1.h = hf → HR base c1 → ExtL 1 base (lentC c ks hl) c1 → ∀ e, ResR c1 r0 e → ∃ c', c'.w = c1.w ∧ c'.h = h' ∧ HR base c' ∧ Ext base c c' ∧ ResR c' r e := by
  unfold lendA at h
  split at h
  case h_2 => cases h
  rename_i hl hlend
  split at h
  case isFalse => cases h
  rename_i hc
  obtain ⟨hcl, hak⟩ := hc
  obtain ⟨L1, L2, L3, L4⟩ := lend_in H hlend hcl
  have pur : ∀ x v, RV c x v → x.pure = true → RV (lentC c ks hl) x v := fun x v hx hp => by
    have := L2 x v hx (fun k hk => by rw [AV.keys_pure x hp] at hk; cases hk)
    rwa [rn_pure x hp] at this
  refine ⟨hl, L1, ?_, fun G i cs hi => pur _ _ (G i cs hi) rfl, pur, ?_⟩
  · refine RVs.of_get (by rw [rnL_length, hv.length]) fun i x v hx hvv => ?_
    rw [rnL_get] at hx
    obtain ⟨y, hy, rfl⟩ := map_some hx
    obtain ⟨v2, q1, q2⟩ := hv.get hy
    rw [hvv] at q1; cases q1
    exact L2 y v q2 fun p hp => allKs_mem hak p (mem_keysL_get hy p hp)
  cases hr : run (AV.rnL (inK ks) args) hl with
  | none => rw [hr] at h; simp [backR] at h
  | some p =>
    obtain ⟨r0, hf⟩ := p
    rw [hr] at h
    refine ⟨r0, hf, rfl, fun c1 hh H1 X e he => ?_⟩
    subst hh
    have giveV : ∀ (c2 : Cx) (v : AV) (val : Value), c2.w = c1.w → HR base c2 → ExtL 1 base (lentC c ks hl) c2 → RV c2 v val → backV ks slot c.h c2.h v = some (r, h') → ∃ v', r = .ret v' ∧ ∃ c', c'.w = c1.w ∧ c'.h = h' ∧ HR base c' ∧ Ext base c c' ∧ RV c' v' val := by
      intro c2 v val hw H2 X2 hv2 hb
      unfold backV at hb
      split at hb
      case h_2 => cases hb
      rename_i v' hx hbk
      cases hb
      obtain ⟨c', a1, a2, a3, a4, a5, _⟩ := lend_out H hnd hlend hcl H2 X2 (.cons _ _ _ _ hv2 .nil) hbk
      cases a5 with
      | cons _ _ _ _ a6 _ => exact ⟨v', rfl, c', a1.trans hw, a2, a3, a4, a6⟩
    cases r0 with
    | ret v =>
      obtain ⟨val, rfl, hv1⟩ := he
      simp only [backR] at h
      cases sr with
      | false =>
        simp only [Bool.false_eq_true, if_false] at h
        obtain ⟨v', rfl, c', a1, a2, a3, a4, a5⟩ := giveV c1 v val rfl H1 X hv1 h
        exact ⟨c', a1, a2, a3, a4, val, rfl, a5⟩
      | true =>
        simp only [if_true] at h
        split at h
        case h_2 => cases h
        rename_i v1 h2 hs
        obtain ⟨c2, d1, d2, d3, d4, d5, d6⟩ := sealA_sound base 20 c1 v v1 h2 val hs H1 hv1
        rw [← d1] at h
        obtain ⟨v', rfl, c', a1, a2, a3, a4, a5⟩ := giveV c2 v1 val d2 d4 (X.trans (d5.toL 1)) d6 h
        exact ⟨c', a1, a2, a3, a4, val, rfl, a5⟩
    | panic ch =>
      obtain ⟨chain, rfl, hch, hrec⟩ := he
      simp only [backR] at h
      split at h
      case isFalse => cases h
      rename_i hp
      split at h
      case h_2 => cases h
      rename_i _ h2 hbk
      cases h
      obtain ⟨c', a1, a2, a3, a4, _, a6⟩ := lend_out H hnd hlend hcl H1 X .nil hbk
      exact ⟨c', a1, a2, a3, a4, chain, rfl, hch.pure_mono (fun b hb => ⟨a6 b hb, by rw [a1]⟩) hp, hrec⟩

theorem sealM_sound {base f} (hf : SealOK base f) : ∀ m l c l' h' vals, sealM f m c.h l = some (l', h') → HR base c → RVs c l vals →
    ∃ c', c'.h = h' ∧ c'.w = c.w ∧ c'.m = c.m ∧ HR base c' ∧ Ext base c c' ∧ RVs c' l' vals
  | m, [], c, l', h', vals, e, H, hv => by
    have e' : sealM f m c.h [] = some ([], c.h) := by cases m with
      | nil => rfl
      | cons b m => cases b <;> rfl
    rw [e'] at e; cases e
    exact ⟨c, rfl, rfl, rfl, H, .refl _ _, hv⟩
  | true :: m, x :: r, c, l', h', _, e, H, .cons _ v _ vs h1 h2 => by
    simp only [sealM] at e
    split at e
    case h_2 => cases e
    rename_i l2 hh2 e2
    cases e
    obtain ⟨c2, b1, b2, b3, b4, b5, b6⟩ := sealM_sound hf m r c l2 _ vs e2 H h2
    exact ⟨c2, b1, b2, b3, b4, b5, .cons _ _ _ _ (b5.rv H h1) b6⟩
  | false :: m, x :: r, c, l', h', _, e, H, .cons _ v _ vs h1 h2 => by
    simp only [sealM] at e
    split at e
    case h_2 => cases e
    rename_i y hh e1
    split at e
    case h_2 => cases e
    rename_i l2 hh2 e2
    cases e
    obtain ⟨c1, a1, a2, a3, a4, a5, a6⟩ := hf c x y hh v e1 H h1
    subst a1
    obtain ⟨c2, b1, b2, b3, b4, b5, b6⟩ := sealM_sound hf m r c1 l2 _ vs e2 a4 (a5.rvs H h2)
    exact ⟨c2, b1, b2.trans a2, b3.trans a3, b4, a5.trans b5 H, .cons _ _ _ _ (b5.rv a4 a6) b6⟩
  | [], x :: r, c, l', h', vals, e, H, hv => sealL_sound hf (x :: r) c l' h' vals e H hv

theorem reach_nil (h : Heap) : ∀ n, reach h n [] = []
  | 0 => rfl
  | n + 1 => by simp [reach, reach_nil h n]
/-- To let stand is to lend nothing. -/
theorem sealed_lend {run : RunF} {slot f args h r h'} (e : sealed run slot f args h = some (r, h')) : ∃ args' h1, sealLW (sealA 20) h args = some (args', h1) ∧ AV.pureL args' = true ∧ lendA [] slot h1 args' true (run f) = some (r, h') := by
  unfold sealed at e
  split at e
  case h_2 => cases e
  rename_i args' h1 hs
  split at e
  case isFalse => cases e
  rename_i hp
  refine ⟨args', h1, hs, hp, ?_⟩
  have bk : ∀ (h2 : Heap) (vs : List AV), AV.pureL vs = true → back [] slot h1 h2 vs = some (vs, h1) := by
    intro h2 vs hvs
    unfold back
    have : dd (reach h2 3 (lentKs ([] : List Key).length ++ AV.keysL vs)) = [] := by
      rw [AV.keysL_pure vs hvs]
      show dd (reach h2 3 []) = []
      rw [reach_nil]; rfl
    rw [this]
    unfold backA
    rw [AV.keysL_pure vs hvs, rnL_pure vs hvs]
    rfl
  unfold lendA
  simp only [lendH, closedH, AV.keysL_pure args' hp, rnL_pure args' hp, List.all_nil, and_self, if_true]
  unfold sealR at e
  split at e
  · rename_i v hf hrun
    split at e
    case h_2 => cases e
    rename_i v' hh hsl
    split at e
    case isFalse => cases e
    rename_i hvp
    cases e
    rw [hrun]
    simp only [backR, if_true, hsl, backV, bk _ [v'] (by simp [AV.pureL, hvp])]
  · rename_i ch hf hrun
    split at e
    case isFalse => cases e
    rename_i hvp
    cases e
    rw [hrun]
    simp only [backR, hvp, if_true, bk _ [] rfl]
  · cases e

theorem lend_ok {P E run} (R : RunOK P E run) {base c ks args vals slot sr f r h'} (H : HR base c) (hb : base ≤ c.w.heap.size) (G : GOK E c) (hnd : ks.Nodup) (h : lendA ks slot c.h args sr (run f) = some (r, h')) (hv : RVs c args vals) :
    CallS P E base c f vals r h' := by
  obtain ⟨hl, H0, hv0, G0, _, r0, hf, hrun, fin⟩ := lendA_sound (E := E) H hnd h hv
  obtain ⟨g, vals', e1, e2⟩ := R base (lentC c ks hl) f _ vals r0 hf hrun H0 hb (G0 G) hv0
  refine ⟨g, vals', e1, e2.mono ?_⟩
  rintro e w' ⟨c1, rfl, q2, q3, q4, q5⟩
  exact fin c1 q2 q3 q4 e q5

theorem CallS.after {P E base c cs f vals r h'} (hw : cs.w = c.w) (X : Ext base c cs) (H : HR base c) (h : CallS P E base cs f vals r h') : CallS P E base c f vals r h' := by
  obtain ⟨g, vals', e1, e2⟩ := h
  rw [hw] at e1 e2
  refine ⟨g, vals', e1, e2.mono ?_⟩
  rintro e w' ⟨c', q1, q2, q3, q4, q5⟩
  exact ⟨c', q1, q2, q3, X.trans q4 H, q5⟩

theorem sealed_ok {P E run} (R : RunOK P E run) : CallOK P E (sealed run) := by
  intro base c slot f args vals r h' h H hb G hv
  obtain ⟨args', h1, s1, _, s3⟩ := sealed_lend h
  obtain ⟨cs, a1, a2, a3, a4, a5, a6⟩ := sealL_sound (sealA_sound base 20) args c args' h1 vals s1 H hv
  rw [← a1] at s3
  exact (lend_ok R a4 (by rw [a2]; exact hb) (G.ext a5 H) .nil s3 a6).after a2 a5 H

theorem dcall_ok {P E run} (R : RunOK P E run) : CallOK P E (dcall run) := by
  intro base c slot f args vals r h' h H hb G hv
  unfold dcall at h
  split at h
  · exact sealed_ok R base c 0 f args vals r h' h H hb G hv
  · split at h
    case h_2 => cases h
    rename_i args' h1 hs
    split at h
    case isFalse => cases h
    rename_i hc
    cases r with
    | panic ch =>
      unfold lookR at h
      split at h
      · split at h <;> cases h
      · cases h
    | ret v =>
    obtain ⟨rfl, hf, g, hg⟩ := lookR_some h
    obtain ⟨cs, a1, a2, a3, a4, a5, a6⟩ := sealL_sound (sealA_sound base 20) args c args' h1 vals hs H hv
    unfold sealed at hg
    rw [sealL_of_pure 19 args' c.h hc.1] at hg
    simp only [hc.1, if_true] at hg
    cases hr : run f args' [] with
    | none => rw [hr] at hg; cases hg
    | some p =>
    obtain ⟨r0, hf0⟩ := p
    rw [hr] at hg
    cases r0 with
    | panic ch =>
      simp only [sealR] at hg
      split at hg <;> simp at hg
    | ret v0 =>
    simp only [sealR] at hg
    split at hg
    case h_2 => cases hg
    rename_i v1 hh hsl
    split at hg
    case isFalse => cases hg
    cases hg
    have e0 : lendH cs.h (inK []) [] = some [] := rfl
    obtain ⟨L1, L2, L3, L4⟩ := lend_in a4 e0 rfl
    have hv0 : RVs (lentC cs [] []) args' vals := RVs.pure_mono (c := cs) (c' := lentC cs [] []) (fun b hb => ⟨hb, rfl⟩) a6 hc.1
    have G0 : GOK E (lentC cs [] []) := fun i cl hi => by
      have := L2 _ _ (G.ext a5 H i cl hi) (fun k hk => by simp [AV.keys] at hk)
      exact this
    obtain ⟨g2, vals', e1, e2⟩ := R base (lentC cs [] []) f args' vals (.ret v0) hf0 hr L1 (by show base ≤ cs.w.heap.size; rw [a2]; exact hb) G0 hv0
    have hw : (lentC cs [] []).w = c.w := a2
    rw [hw] at e1 e2
    refine ⟨g2, vals', e1, e2.mono ?_⟩
    rintro e w' ⟨c1, rfl, q2, q3, q4, val, rfl, q5⟩
    have hnm : ∀ b, ¬ (lentC cs [] []).Mut b := by rintro b ⟨k, o, hk, _⟩; simp [lentC, lookK] at hk
    have old : ∀ b, b < c.w.heap.size → c1.w.heap[b]? = c.w.heap[b]? := fun b hb => by
      have := q4.frame b (by rw [hw]; exact hb) (hnm b)
      rw [hw] at this; exact this
    have hsz : c.w.heap.size ≤ c1.w.heap.size := by have := q4.size; rw [hw] at this; exact this
    rw [← q2] at hsl
    obtain ⟨c2, t1, t2, t3, t4, t5, t6⟩ := sealA_sound base 20 c1 _ _ _ val hsl q3 q5
    let c' : Cx := ⟨c1.w, c.Rd, c.m, c.h⟩
    have rv : ∀ x v, RV c x v → RV c' x v := fun x v hx => hx.mono (c := c) (c' := c') (fun b hb => ⟨hb, old b (H.rd b hb)⟩) fun k _ hk => ⟨hk, rfl⟩
    refine ⟨c', rfl, rfl, ⟨?_, H.mt, H.sld, H.inj, fun b hb => Nat.lt_of_lt_of_le (H.rd b hb) hsz⟩, ⟨?_, ?_, ?_, hsz, fun b hb _ => old b hb, fun b hb => hb, fun k hk => ⟨hk, rfl⟩, fun b hb => .inl hb, fun b hb => .inl hb⟩, val, rfl, t6.flatR hf⟩
    · intro k o hk hl
      obtain ⟨arr, ty, fr, g1, g2, g3, g4, g4b, g5⟩ := H.obj k o hk hl
      exact ⟨arr, ty, fr, (old _ (Array.getElem?_eq_some_iff.1 g1).1).trans g1, g2, g3, g4, g4b, fun i x hx => by
        obtain ⟨v, z1, z2, z3⟩ := g5 i x hx
        exact ⟨v, z1, rv _ _ z2, z3⟩⟩
    · have := q4.os; rw [hw] at this; exact this
    · have := q4.tape; rw [hw] at this; exact this
    · have := q4.output; rw [hw] at this; exact this

theorem site_ok {P E run} (R : RunOK P E run) (fn : AFn) : CallOK P E (site fn run) := by
  intro base c slot f args vals r h' h H hb G hv
  unfold site at h
  split at h
  · exact sealed_ok R base c slot f args vals r h' h H hb G hv
  · rename_i m sr _
    unfold opened at h
    split at h
    case h_2 => cases h
    rename_i args' h1 hs
    obtain ⟨cs, a1, a2, a3, a4, a5, a6⟩ := sealM_sound (sealA_sound base 20) m args c args' h1 vals hs H hv
    rw [← a1] at h
    exact (lend_ok R a4 (by rw [a2]; exact hb) (G.ext a5 H) (dd_nodup _) h a6).after a2 a5 H

/-! ### A function that defers a closure which recovers -/
def flat : Code → List Code
  | .seq a b => flat a ++ flat b
  | c => [c]
def wpL (P : Program) (Q : Exit → Act → World → Prop) : List Code → Act → World → Prop
  | [], a, w => Q .normal a w
  | c :: r, a, w => c.wp P (Exit.then (wpL P Q r) Q) a w
theorem then_other {next : Act → World → Prop} {Q : Exit → Act → World → Prop} {e a w} (hne : e ≠ .normal) : Exit.then next Q e a w = Q e a w := by
  cases e <;> first | rfl | exact absurd rfl hne
theorem wp_flat {P : Program} : ∀ (c : Code) {r : List Code} {Q a w}, wpL P Q (flat c ++ r) a w → c.wp P (Exit.then (wpL P Q r) Q) a w
  | .seq x y, r, Q, a, w, h => by
    simp only [flat, List.append_assoc] at h
    refine wp_seq (wp_mono (wp_flat x h) fun e a' w' hq => ?_)
    by_cases he : e = .normal
    · subst he
      exact wp_flat y hq
    · rw [then_other he] at hq ⊢
      rw [then_other he]; exact hq
  | .skip, r, Q, a, w, h => h
  | .region .., r, Q, a, w, h => h
  | .cond .., r, Q, a, w, h => h
  | .block .., r, Q, a, w, h => h
  | .loop _, r, Q, a, w, h => h
  | .rangeFunc .., r, Q, a, w, h => h
  | .exit _, r, Q, a, w, h => h
  | .scope _, r, Q, a, w, h => h
  | .label _, r, Q, a, w, h => h
  | .goto _, r, Q, a, w, h => h
  | .ret, r, Q, a, w, h => h
  | .refuse _, r, Q, a, w, h => h
theorem wp_flat' {P : Program} {c : Code} {Q a w} (h : wpL P Q (flat c) a w) : c.wp P Q a w := by
  refine wp_mono (wp_flat c (r := []) (by simpa using h)) fun e a' w' hq => ?_
  by_cases he : e = .normal
  · subst he; exact hq
  · rwa [then_other he] at hq
theorem wpL_mono {P : Program} {Q Q' : Exit → Act → World → Prop} (hq : ∀ e a w, Q e a w → Q' e a w) : ∀ {l a w}, wpL P Q l a w → wpL P Q' l a w
  | [], a, w, h => hq _ _ _ h
  | c :: r, a, w, h => wp_mono h fun e a' w' hh => by
    by_cases he : e = .normal
    · subst he; exact wpL_mono hq hh
    · rw [then_other he] at hh ⊢; exact hq _ _ _ hh
theorem wpL_app {P : Program} {Q : Exit → Act → World → Prop} : ∀ {l r a w}, wpL P (Exit.then (wpL P Q r) Q) l a w → wpL P Q (l ++ r) a w
  | [], r, a, w, h => h
  | c :: l, r, a, w, h => wp_mono h fun e a' w' hh => by
    by_cases he : e = .normal
    · subst he; exact wpL_app hh
    · rw [then_other he] at hh ⊢; rwa [then_other he] at hh

def wpSL (P : Program) (Q : Exit → Act → List Frame → World → Prop) : List Code → Act → List Frame → World → Prop
  | [], a, cs, w => Q .normal a cs w
  | c :: r, a, cs, w => c.wpS P (Exit.thenS (wpSL P Q r) Q) a cs w
theorem thenS_other {next : Act → List Frame → World → Prop} {Q : Exit → Act → List Frame → World → Prop} {e a cs w} (hne : e ≠ .normal) : Exit.thenS next Q e a cs w = Q e a cs w := by
  cases e <;> first | rfl | exact absurd rfl hne
theorem wpS_mono {P : Program} {c : Code} {Q Q' : Exit → Act → List Frame → World → Prop} {a cs w} (h : c.wpS P Q a cs w) (hq : ∀ e a cs w, Q e a cs w → Q' e a cs w) : c.wpS P Q' a cs w :=
  fun b k h1 h2 => let ⟨e, a', cs', w', q, r⟩ := h b k h1 h2; ⟨e, a', cs', w', hq _ _ _ _ q, r⟩
theorem wpS_flat {P : Program} : ∀ (c : Code) {r : List Code} {Q a cs w}, wpSL P Q (flat c ++ r) a cs w → c.wpS P (Exit.thenS (wpSL P Q r) Q) a cs w
  | .seq x y, r, Q, a, cs, w, h => by
    simp only [flat, List.append_assoc] at h
    refine wpS_seq (wpS_mono (wpS_flat x h) fun e a' cs' w' hq => ?_)
    by_cases he : e = .normal
    · subst he
      exact wpS_flat y hq
    · rw [thenS_other he] at hq ⊢
      rw [thenS_other he]; exact hq
  | .skip, r, Q, a, cs, w, h => h
  | .region .., r, Q, a, cs, w, h => h
  | .cond .., r, Q, a, cs, w, h => h
  | .block .., r, Q, a, cs, w, h => h
  | .loop _, r, Q, a, cs, w, h => h
  | .rangeFunc .., r, Q, a, cs, w, h => h
  | .exit _, r, Q, a, cs, w, h => h
  | .scope _, r, Q, a, cs, w, h => h
  | .label _, r, Q, a, cs, w, h => h
  | .goto _, r, Q, a, cs, w, h => h
  | .ret, r, Q, a, cs, w, h => h
  | .refuse _, r, Q, a, cs, w, h => h
theorem wpSL_of_wpL {P : Program} {Q : Exit → Act → List Frame → World → Prop} {cs} : ∀ {l a w}, wpL P (fun e a' w' => Q e a' cs w') l a w → wpSL P Q l a cs w
  | [], a, w, h => h
  | c :: r, a, w, h => wpS_of_wp (wp_mono h fun e a' w' hh => by
    by_cases he : e = .normal
    · subst he; exact wpSL_of_wpL hh
    · rw [then_other he] at hh; rw [thenS_other he]; exact hh)

def eraseCs (dyn : Nat → List (Nat × Nat)) : List Code → Option (List Code)
  | [] => some []
  | c :: r => match eraseC dyn c, eraseCs dyn r with
    | some x, some l => some (x :: l)
    | _, _ => none

theorem aCodes_sound {P E} (O : EnvOK P E) (D : DrawSound P E) {call sc : CallF} (C : CallOK P E call) (Cs : CallOK P E sc) (hCP : CP sc)
    {Ds : List Deferred} {base fuel lvl : Nat} {fn : AFn} : ∀ (l l' : List Code), eraseCs fn.dyn l = some l' → ∀ (s : St) ex s', aCodes E call sc fuel lvl fn l' s = some (ex, s') → ∀ (c : Cx) (a : Act), HR base c → base ≤ c.w.heap.size → GOK E c → c.h = s.h → FR c fn.ntmps s.t a.tmps → a.defers = Ds →
    wpL P (Post Ds lvl base fn.ntmps c ex s') l a c.w
  | [], l', e, s, ex, s', h, c, a, H, hb, G, hh, F, hd => by
    simp only [eraseCs, Option.some.injEq] at e; subst e
    simp only [aCodes, Option.some.injEq, Prod.mk.injEq] at h
    obtain ⟨rfl, rfl⟩ := h
    exact ⟨c, rfl, hh, H, .refl _ _ _, F, hd, rfl⟩
  | x :: r, l', e, s, ex, s', h, c, a, H, hb, G, hh, F, hd => by
    simp only [eraseCs] at e
    split at e
    case h_2 => cases e
    rename_i x' l2 ex' el
    simp only [Option.some.injEq] at e; subst e
    simp only [aCodes] at h
    cases hr : aCode E call sc fuel lvl fn x' s with
    | none => rw [hr] at h; cases h
    | some p =>
      obtain ⟨ex1, s1⟩ := p
      rw [hr] at h
      refine wp_mono (aCode_sound O D C Cs hCP (L := lvl) rfl x x' ex' s ex1 s1 hr c a H hb G hh F hd) ?_
      rintro e a' w' ⟨c1, rfl, q2, q3, q4, q5, q6, q7⟩
      cases ex1 with
      | normal =>
        obtain rfl := q7
        simp only at h
        exact wpL_mono (fun e a w hp => hp.seq q4) (aCodes_sound O D C Cs hCP r l2 el s1 ex s' h c1 a' q3 (Nat.le_trans hb q4.size) (G.extL q4 H) q2 q5 q6)
      | exit i =>
        simp only [Option.some.injEq, Prod.mk.injEq] at h
        obtain ⟨rfl, rfl⟩ := h
        obtain rfl := q7
        exact ⟨c1, rfl, q2, q3, q4, q5, q6, rfl⟩
      | ret =>
        simp only [Option.some.injEq, Prod.mk.injEq] at h
        obtain ⟨rfl, rfl⟩ := h
        obtain rfl := q7
        exact ⟨c1, rfl, q2, q3, q4, q5, q6, rfl⟩
      | panic ch =>
        simp only [Option.some.injEq, Prod.mk.injEq] at h
        obtain ⟨rfl, rfl⟩ := h
        obtain ⟨chain, rfl, q8⟩ := q7
        exact ⟨c1, rfl, q2, q3, q4, q5, q6, chain, rfl, q8⟩

end Ab
