/- What a translation's tables owe, by sums that the kernel works out. Own work, no conditions. -/
import Derived.Test.YtalmnhdnclmhbaaAb20
import Derived.Test.YtalmnhdnclmhbaaAb25
set_option linter.unusedVariables false
set_option linter.unusedSimpArgs false
namespace Ab
open Go

def fnSum (P : Program) (f : FuncId) : Option (Option Code × Nat × List ResultVar × Bool) :=
  (P.funcs[f]?).bind fun F => F.body.map fun code => (eraseC code, F.ntmps, F.results.toList, F.name == "runtime.NumGoroutine")
theorem FnOK.of {P : Program} {f : FuncId} {fn : AFn} (h : fnSum P f = some (some fn.body, fn.ntmps, fn.results, false)) : FnOK P f fn := by
  unfold fnSum at h
  cases hF : P.funcs[f]? with
  | none => rw [hF] at h; cases h
  | some F =>
    rw [hF] at h
    cases hb : F.body with
    | none => simp [hb] at h
    | some code =>
      simp only [Option.bind_some, hb, Option.map_some, Option.some.injEq, Prod.mk.injEq] at h
      exact ⟨F, code, hF, hb, h.1, h.2.1, h.2.2.1, h.2.2.2⟩

def AllFn (P : Program) : Nat → List (Option AFn) → Prop
  | _, [] => True
  | i, none :: r => AllFn P (i + 1) r
  | i, some fn :: r => FnOK P i fn ∧ AllFn P (i + 1) r
theorem AllFn.get {P : Program} : ∀ {l : List (Option AFn)} {i k fn}, AllFn P i l → l[k]? = some (some fn) → FnOK P (i + k) fn
  | [], i, k, fn, _, h => by simp at h
  | none :: r, i, k, fn, ha, h => by
    cases k with
    | zero => simp at h
    | succ k =>
      have := AllFn.get (l := r) ha (by simpa using h)
      rwa [show i + (k + 1) = i + 1 + k by omega]
  | some f :: r, i, k, fn, ha, h => by
    cases k with
    | zero => simp at h; subst h; exact ha.1
    | succ k =>
      have := AllFn.get (l := r) ha.2 (by simpa using h)
      rwa [show i + (k + 1) = i + 1 + k by omega]

def tySum (P : Program) (t : TypeId) (τ : Ty) : Option (Nat × Nat × Option (List AV) × Bool) :=
  (P.info? t).bind fun i => i.zero.bind fun z => (P.underlying t).map fun d => (i.size, i.bytes, ofVL z.cells.toList, dOK d τ)
theorem TyOK.of {P : Program} {t : TypeId} {τ : TyI} (h : tySum P t τ.d = some (τ.size, τ.bytes, some τ.zero, true)) (h2 : (τ.zero.all AV.scal && (τ.zero.length == τ.size) && AV.pureL τ.zero) = true) : TyOK P t τ := by
  unfold tySum at h
  cases hi : P.info? t with
  | none => rw [hi] at h; cases h
  | some i =>
    rw [hi] at h
    cases hz : i.zero with
    | none => simp [hz] at h
    | some z =>
      cases hd : P.underlying t with
      | none => simp [hz, hd] at h
      | some d =>
        simp only [Option.bind_some, hz, hd, Option.map_some, Option.some.injEq, Prod.mk.injEq] at h
        simp only [Bool.and_eq_true, beq_iff_eq] at h2
        exact ⟨⟨i, z, hi, h.1, h.2.1, hz, h.2.2.1, h2.1.1, h2.1.2, h2.2⟩, d, hd, h.2.2.2⟩

def tySums (P : Program) : Nat → List (Option TyI) → List (Option (Nat × Nat × Option (List AV) × Bool))
  | _, [] => []
  | i, none :: r => tySums P (i + 1) r
  | i, some τ :: r => tySum P i τ.d :: tySums P (i + 1) r
def tyTold : List (Option TyI) → List (Option (Nat × Nat × Option (List AV) × Bool))
  | [] => []
  | none :: r => tyTold r
  | some τ :: r => some (τ.size, τ.bytes, some τ.zero, true) :: tyTold r
def tyFit : List (Option TyI) → Bool
  | [] => true
  | none :: r => tyFit r
  | some τ :: r => (τ.zero.all AV.scal && (τ.zero.length == τ.size) && AV.pureL τ.zero) && tyFit r
theorem tys_get {P : Program} : ∀ {l : List (Option TyI)} {i k τ}, tySums P i l = tyTold l → tyFit l = true → l[k]? = some (some τ) → TyOK P (i + k) τ
  | [], i, k, τ, _, _, h => by simp at h
  | none :: r, i, k, τ, ha, hf, h => by
    cases k with
    | zero => simp at h
    | succ k =>
      have := tys_get (l := r) ha hf (by simpa using h)
      rwa [show i + (k + 1) = i + 1 + k by omega]
  | some f :: r, i, k, τ, ha, hf, h => by
    simp only [tySums, tyTold, List.cons.injEq] at ha
    simp only [tyFit, Bool.and_eq_true] at hf
    cases k with
    | zero => simp at h; subst h; exact TyOK.of ha.1 (by simp only [Bool.and_eq_true]; exact hf.1)
    | succ k =>
      have := tys_get (l := r) ha.2 hf.2 (by simpa using h)
      rwa [show i + (k + 1) = i + 1 + k by omega]
def cmps : Nat → List (Option TyI) → List TypeId
  | _, [] => []
  | i, none :: r => cmps (i + 1) r
  | i, some τ :: r => if τ.cmp then i :: cmps (i + 1) r else cmps (i + 1) r
theorem cmps_get : ∀ {l : List (Option TyI)} {i k τ}, l[k]? = some (some τ) → τ.cmp = true → i + k ∈ cmps i l
  | [], i, k, τ, h, _ => by simp at h
  | none :: r, i, k, τ, h, hc => by
    cases k with
    | zero => simp at h
    | succ k =>
      have := cmps_get (l := r) (i := i + 1) (k := k) (by simpa using h) hc
      rw [show i + (k + 1) = i + 1 + k by omega]; exact this
  | some f :: r, i, k, τ, h, hc => by
    unfold cmps
    cases k with
    | zero => simp at h; subst h; simp [hc]
    | succ k =>
      have := cmps_get (l := r) (i := i + 1) (k := k) (by simpa using h) hc
      rw [show i + (k + 1) = i + 1 + k by omega]
      split
      · exact List.mem_cons_of_mem _ this
      · exact this


theorem getT_some {α} : ∀ {l : List (Option α)} {i : Nat} {x : α}, getT l i = some x → l[i]? = some (some x)
  | [], i, x, h => by simp [getT] at h
  | y :: r, 0, x, h => by simp [getT] at h; simp [h]
  | y :: r, i + 1, x, h => by simpa using getT_some (l := r) (i := i) h

theorem EnvOK.of {P : Program} {E : Env} {l : List (Option TyI)} (hE : E.ty = getT l) (h1 : tySums P 0 l = tyTold l) (h2 : tyFit l = true) (h3 : ∀ t ∈ cmps 0 l, CmpOK P t) : EnvOK P E where
  ty := fun t τ h => by
    rw [hE] at h
    have := tys_get (i := 0) h1 h2 (getT_some h)
    rwa [Nat.zero_add] at this
  cmp := fun t τ h hc => by
    rw [hE] at h
    have := cmps_get (i := 0) (getT_some h) hc
    rw [Nat.zero_add] at this
    exact h3 t this
theorem FnsOK.of {P : Program} {E : Env} {l : List (Option AFn)} (hE : E.fn = getT l) (h : AllFn P 0 l) (hp : ∀ f p, E.prim f = some p → PrimOK P f p) : FnsOK P E where
  fn := fun f fn hf => by
    rw [hE] at hf
    have := AllFn.get h (getT_some hf)
    rwa [Nat.zero_add] at this
  prim := hp

def isT (r : Option (ARes × Heap)) : Bool := match r with
  | some (.ret (.bool true), _) => true
  | _ => false
theorem isT_some {r : Option (ARes × Heap)} (h : isT r = true) : ∃ g, r = some (.ret (.bool true), g) := by
  unfold isT at h
  split at h
  · exact ⟨_, rfl⟩
  · cases h

/-- What stands behind a law: the evaluator's word is the program's. -/
theorem law_true {P : Program} {E : Env} (O : EnvOK P E) (Fs : FnsOK P E) (hm : P.follows .mixedOrders = true) (hg : ∀ i, E.glob i = none) {n : Nat} {f : FuncId} {args : List AV} {vals : List Value} {h : Heap} {w : World}
    (hrun : aCall E n 0 f args [] = some (.ret (.bool true), h)) (hv : RVs ⟨w, fun b => b < w.heap.size, fun _ => (0, 0), []⟩ args vals) :
    ∃ g vals', (callFunc f ⟨vals⟩).run P w = .ok (.enter g vals') w ∧ Calls P g vals' w fun e w' => e = .returned (.bool true) ∧ w'.os = w.os ∧ w'.tape = w.tape ∧ w'.output = w.output ∧ w.heap.size ≤ w'.heap.size ∧ ∀ b, b < w.heap.size → w'.heap[b]? = w.heap[b]? := by
  let c : Cx := ⟨w, fun b => b < w.heap.size, fun _ => (0, 0), []⟩
  have no : ∀ k o, lookK c.h k = some o → False := fun k o hk => by cases hk
  have H : HR w.heap.size c := ⟨fun k o hk => (no k o hk).elim, fun k o hk => (no k o hk).elim, fun k o hk => (no k o hk).elim, fun k o _ _ hk => (no k o hk).elim, fun b hb => hb⟩
  have G : GOK E c := fun i cs hi => by rw [hg i] at hi; cases hi
  obtain ⟨g, vals', h1, h2⟩ := aCall_sound O Fs (draw_sound O hm) n w.heap.size c 0 f args vals _ _ hrun H (Nat.le_refl _) G hv
  refine ⟨g, vals', h1, h2.mono ?_⟩
  rintro e w' ⟨c', rfl, _, H', X, val, rfl, hr⟩
  cases hr
  exact ⟨rfl, X.os, X.tape, X.output, X.size, fun b hb => X.frame b hb fun ⟨k, o, hk, _⟩ => by cases hk⟩

end Ab
