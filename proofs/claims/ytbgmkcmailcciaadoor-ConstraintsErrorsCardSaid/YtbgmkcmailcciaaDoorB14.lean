/- Every operation of the evaluator is the model's. Own work, no conditions. -/
import Derived.Test.YtbgmkcmailcciaaDoorB13
set_option linter.unusedVariables false
set_option linter.unusedSimpArgs false
namespace Ab
open Go

theorem conts_scal (P : Program) {base c} (H : HR base c) {x ys n} (h : conts c.h x = some (ys, n)) : True := trivial

theorem copyA_sound {P E} (O : EnvOK P E) {base c} (H : HR base c) {t d s r vd vs} {ts : Array TypeId} {ty : TypeId} {args : Array Value} (h : copyA E c.h t d s = some r) (hd : RV c d vd) (hs : RV c s vs)
    (hts : ts[0]? = some t) (h0 : args[0]? = some vd) (h1 : args[1]? = some vs) : ∃ v h', r = .val v h' ∧ Made P base c (Builtin.copy_ ts ty args) v h' := by
  unfold copyA at h
  split at h
  case h_2 => cases h
  rename_i e _ _ _ _ ht
  have hu := under_slice O ht
  split at h
  · rename_i τ ys n k off len _ he hc
    split at h
    case isFalse => cases h
    rename_i hyl
    simp only at h
    split at h
    case h_2 => cases h
    rename_i h2 hw
    cases h
    obtain ⟨us, u1, u2, u3⟩ := conts_sound P H hc hs
    have hul := u1.length
    cases hd with
    | ref _ _ _ _ cap' g1 g2 g3 g4 =>
    obtain ⟨c', a1, a2, a3, a4, a5⟩ := writeC_sound P H hw (u1.take _)
    refine ⟨_, _, rfl, .int .i64 (min n len : Nat), c', a1, ?_, .int _ _, a4, a5⟩
    unfold Builtin.copy_
    simp only [hts, h0, h1, Sem.run_bind, run_underlying hu, Result.andThen_ok, u2, run_size O he, Sem.run_pure]
    have := u3 τ.size (min n len) hyl (Nat.min_le_left _ _) c.w rfl
    rw [show n.min len = min n len from rfl, this]
    simp only [Result.andThen_ok, Sem.run_bind]
    rw [a3]
    simp [goInt]
  · rename_i τ ys n f cap he hc
    cases h
    obtain ⟨us, u1, u2, u3⟩ := conts_sound P H hc hs
    cases hd with
    | slE f a _ cap' g1 g2 g3 =>
    refine ⟨_, _, rfl, .int .i64 0, c, rfl, ?_, .int _ _, H, .refl _ _⟩
    unfold Builtin.copy_
    simp only [hts, h0, h1, Sem.run_bind, run_underlying hu, Result.andThen_ok, u2, run_size O he, Sem.run_pure]
    have hn : n.min 0 = 0 := Nat.min_zero n
    rw [hn]
    have hf : (Builtin.firstCells τ.size 0 vs).run P c.w = .ok #[] c.w := by
      cases vs with
      | slice b _ _ => cases b <;> simp [Builtin.firstCells, loadCells, loadCellsFrom]
      | string s =>
        simp only [Builtin.firstCells, Sem.run_pure]
        congr 1
        apply Array.ext'
        simp [ByteArray.data_extract]
      | _ => cases hs <;> simp [Builtin.lenOf] at u2
    rw [hf]
    cases a <;> simp [storeCells, goInt]
    | slC _ _ _ _ _ _ _ hne => exact absurd rfl hne
  · cases h

theorem builtinA_sound {P E} (O : EnvOK P E) {base c} (H : HR base c) (hb : base ≤ c.w.heap.size) {lvl slot b as r} {vs : Array Value} {ts : Array TypeId} {ty : TypeId} {cs : Array Bool} {vl : List Value}
    (h : builtinA E lvl slot c.h b ts.toList as = some r) (heqv : vs.toList = vl) (hv : RVs c as vl) :
    ∃ v h', r = .val v h' ∧ ∃ val c', c'.h = h' ∧ (builtin b ts ty cs vs).run P c.w = .ok (.value val) c'.w ∧ RV c' v val ∧ HR base c' ∧ Ext base c c' := by
  have wrap : ∀ {s : Sem Value} {v h'}, Made P base c s v h' → ∃ val c', c'.h = h' ∧ (do pure (Next.value (← s)) : Sem Next).run P c.w = .ok (.value val) c'.w ∧ RV c' v val ∧ HR base c' ∧ Ext base c c' := by
    rintro s v h' ⟨val, c', a1, a2, a3, a4, a5⟩
    exact ⟨val, c', a1, by simp [a2], a3, a4, a5⟩
  have comp : ∀ {s : Sem Value} {v}, Comp P c s v → ∃ val c', c'.h = c.h ∧ (do pure (Next.value (← s)) : Sem Next).run P c.w = .ok (.value val) c'.w ∧ RV c' v val ∧ HR base c' ∧ Ext base c c' := fun hc => wrap (hc.made H)
  unfold builtinA at h
  split at h
  · rename_i t _ x _ heq
    have hts : ts[0]? = some t := by rw [← Array.getElem?_toList, heq]; rfl
    cases hv with
    | cons _ vx _ vr hx hr =>
    have h0 : vs[0]? = some vx := by rw [← Array.getElem?_toList, heqv]; rfl
    split at h
    · rename_i ht
      cases h
      refine ⟨_, _, rfl, comp ?_⟩
      cases hx with
      | slE => exact ⟨_, by simp [Builtin.len_, hts, h0, run_underlying (under_slice O ht), goInt], .int _ _⟩
      | slC => exact ⟨_, by simp [Builtin.len_, hts, h0, run_underlying (under_slice O ht), goInt], .int _ _⟩
    · rename_i ht
      cases h
      refine ⟨_, _, rfl, comp ?_⟩
      cases hx
      exact ⟨_, by simp [Builtin.len_, hts, h0, run_underlying (under_slice O ht), goInt], .int _ _⟩
    · rename_i ht
      cases h
      refine ⟨_, _, rfl, comp ?_⟩
      cases hx with
      | str _ s e1 =>
        subst e1
        exact ⟨.int .i64 s.size, by simp [Builtin.len_, hts, h0, run_underlying (under_str O ht), goInt], by simpa using RV.int .i64 s.size⟩
    · rename_i ht
      cases h
      refine ⟨_, _, rfl, comp ?_⟩
      exact ⟨_, by simp [Builtin.len_, hts, h0, run_underlying (under_arr O ht), goInt], .int _ _⟩
    · cases h
  · rename_i t _ x _ heq
    have hts : ts[0]? = some t := by rw [← Array.getElem?_toList, heq]; rfl
    cases hv with
    | cons _ vx _ vr hx hr =>
    have h0 : vs[0]? = some vx := by rw [← Array.getElem?_toList, heqv]; rfl
    split at h
    · rename_i cc ht
      cases h
      refine ⟨_, _, rfl, comp ?_⟩
      cases hx with
      | slE _ _ _ cap' _ _ g => exact ⟨_, by simp [Builtin.cap_, hts, h0, run_underlying (under_slice O ht), goInt, g cc rfl], .int _ _⟩
      | slC _ _ _ _ _ _ cap' _ _ _ _ _ _ _ g => exact ⟨_, by simp [Builtin.cap_, hts, h0, run_underlying (under_slice O ht), goInt, g cc rfl], .int _ _⟩
    · rename_i cc ht
      cases h
      refine ⟨_, _, rfl, comp ?_⟩
      cases hx with
      | ref _ _ _ _ cap' _ _ g => exact ⟨_, by simp [Builtin.cap_, hts, h0, run_underlying (under_slice O ht), goInt, g cc rfl], .int _ _⟩
    · cases h
  · rename_i t t2 _ s x _ heq
    have hts : ts[0]? = some t := by rw [← Array.getElem?_toList, heq]; rfl
    have hts2 : ts[1]? = some t2 := by rw [← Array.getElem?_toList, heq]; rfl
    cases hv with
    | cons _ v0 _ vr hx hr =>
    cases hr with
    | cons _ v1 _ vr2 hx1 hr2 =>
    have h0 : vs[0]? = some v0 := by rw [← Array.getElem?_toList, heqv]; rfl
    have h1 : vs[1]? = some v1 := by rw [← Array.getElem?_toList, heqv]; rfl
    split at h
    · rename_i ht2
      obtain ⟨v, h', e1, e2⟩ := appendA_sound (ty := ty) O H hb h hx hx1 hts hts2 ht2 (by simp) h0 h1
      exact ⟨v, h', e1, wrap e2⟩
    · rename_i ht2
      obtain ⟨v, h', e1, e2⟩ := appendA_sound (ty := ty) O H hb h hx hx1 hts hts2 ht2 (by simp) h0 h1
      exact ⟨v, h', e1, wrap e2⟩
    · cases h
  · rename_i t _ d s _ heq
    have hts : ts[0]? = some t := by rw [← Array.getElem?_toList, heq]; rfl
    cases hv with
    | cons _ v0 _ vr hx hr =>
    cases hr with
    | cons _ v1 _ vr2 hx1 hr2 =>
    have h0 : vs[0]? = some v0 := by rw [← Array.getElem?_toList, heqv]; rfl
    have h1 : vs[1]? = some v1 := by rw [← Array.getElem?_toList, heqv]; rfl
    obtain ⟨v, h', e1, e2⟩ := copyA_sound (ty := ty) O H h hx hx1 hts h0 h1
    exact ⟨v, h', e1, wrap e2⟩
  · rename_i k a k' b
    split at h
    case isFalse => cases h
    rename_i hk
    cases h
    refine ⟨_, _, rfl, comp ?_⟩
    cases hv with
    | cons _ v0 _ vr hx hr =>
    cases hr with
    | cons _ v1 _ vr2 hx1 hr2 =>
    cases hr2
    cases hx; cases hx1
    refine ⟨_, ?_, .int _ _⟩
    simp [Builtin.min_, heqv, Builtin.min2]
  · rename_i k a k' b
    split at h
    case isFalse => cases h
    rename_i hk
    cases h
    refine ⟨_, _, rfl, comp ?_⟩
    cases hv with
    | cons _ v0 _ vr hx hr =>
    cases hr with
    | cons _ v1 _ vr2 hx1 hr2 =>
    cases hr2
    cases hx; cases hx1
    refine ⟨_, ?_, .int _ _⟩
    simp [Builtin.max_, heqv, Builtin.max2]
  · cases h

end Ab
