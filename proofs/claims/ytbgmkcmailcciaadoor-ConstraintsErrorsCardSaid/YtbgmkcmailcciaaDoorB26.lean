/- What a translation's tables owe, by sums that the kernel works out. Own work, no conditions. -/
import Derived.Test.YtbgmkcmailcciaaDoorB37
import Derived.Test.YtbgmkcmailcciaaDoorB25
set_option linter.unusedVariables false
set_option linter.unusedSimpArgs false
namespace Ab
open Go

def fnSum (P : Program) (dyn : Nat → List (Nat × Nat)) (f : FuncId) : Option (Option Code × Nat × List ResultVar × Bool) :=
  (P.funcs[f]?).bind fun F => F.body.map fun code => (eraseC dyn code, F.ntmps, F.results.toList, F.name == "runtime.NumGoroutine")
theorem FnOK.of {P : Program} {f : FuncId} {fn : AFn} (h : fnSum P fn.dyn f = some (some fn.body, fn.ntmps, fn.results, false)) : FnOK P f fn := by
  unfold fnSum at h
  cases hF : P.funcs[f]? with
  | none => rw [hF] at h; cases h
  | some F =>
    rw [hF] at h
    cases hb : F.body with
    | none => simp [hb] at h
    | some code =>
      simp only [Option.bind_some, hb, Option.map_some, Option.some.injEq, Prod.mk.injEq] at h
      exact ⟨F, code, hF, hb, h.1, h.2.1, h.2.2.1, h.2.2.2⟩

abbrev FSum := Option (((Nat × FuncId × List Nat) × List Code × List Code) × Nat × List ResultVar × Bool)
def grdSum (P : Program) (dyn : Nat → List (Nat × Nat)) (f : FuncId) (k : Nat) : FSum :=
  (P.funcs[f]?).bind fun F => F.body.bind fun code =>
    match (flat code)[k]? with
    | some (.region _ ops false) => (dfrOps ops).bind fun d => (eraseCs dyn ((flat code).take k)).bind fun a => (eraseCs dyn ((flat code).drop (k + 1))).map fun b => ((d, a, b), F.ntmps, F.results.toList, F.name == "runtime.NumGoroutine")
    | _ => none
def recSum (P : Program) (dyn : Nat → List (Nat × Nat)) (g : FuncId) : Option ((List Nat × List Code) × Nat × List ResultVar × Bool) :=
  (P.funcs[g]?).bind fun G => G.body.bind fun code =>
    match flat code with
    | .region _ ops false :: rest => (recOps ops).bind fun rs => (eraseCs dyn rest).map fun b => ((rs, b), G.ntmps, G.results.toList, G.name == "runtime.NumGoroutine")
    | _ => none
theorem GrdOK.of {P : Program} {f : FuncId} {fn : AFn} {gd : Grd} (k : Nat) (h : grdSum P fn.dyn f k = some (((gd.t, gd.g, gd.caps), gd.pre, gd.post), fn.ntmps, fn.results, false))
    (h2 : recSum P gd.gfn.dyn gd.g = some ((gd.rs, gd.gpost), gd.gfn.ntmps, [], false)) : GrdOK P f fn gd := by
  constructor
  · unfold grdSum at h
    cases hF : P.funcs[f]? with
    | none => rw [hF] at h; cases h
    | some F =>
    rw [hF] at h
    cases hb : F.body with
    | none => simp [hb] at h
    | some code =>
    simp only [Option.bind_some, hb] at h
    split at h
    case h_2 => cases h
    rename_i id ops hk
    cases hd : dfrOps ops with
    | none => rw [hd] at h; cases h
    | some d =>
    rw [hd] at h
    cases ha : eraseCs fn.dyn ((flat code).take k) with
    | none => rw [ha] at h; cases h
    | some a =>
    rw [ha] at h
    cases hb2 : eraseCs fn.dyn ((flat code).drop (k + 1)) with
    | none => rw [hb2] at h; cases h
    | some b =>
    rw [hb2] at h
    simp only [Option.bind_some, Option.map_some, Option.some.injEq, Prod.mk.injEq] at h
    obtain ⟨⟨rfl, rfl, rfl⟩, e1, e2, e3⟩ := h
    exact ⟨F, code, k, ops, id, rfl, hb, e1, e2, e3, hk, hd, ha, hb2⟩
  · unfold recSum at h2
    cases hF : P.funcs[gd.g]? with
    | none => rw [hF] at h2; cases h2
    | some G =>
    rw [hF] at h2
    cases hb : G.body with
    | none => simp [hb] at h2
    | some code =>
    simp only [Option.bind_some, hb] at h2
    split at h2
    case h_2 => cases h2
    rename_i id ops rest hk
    cases hd : recOps ops with
    | none => rw [hd] at h2; cases h2
    | some rs =>
    rw [hd] at h2
    cases ha : eraseCs gd.gfn.dyn rest with
    | none => rw [ha] at h2; cases h2
    | some a =>
    rw [ha] at h2
    simp only [Option.bind_some, Option.map_some, Option.some.injEq, Prod.mk.injEq] at h2
    obtain ⟨⟨e0, e1⟩, e2, e3, e4⟩ := h2
    subst e0 e1
    exact ⟨G, code, ops, id, rest, rfl, hb, e2, e3, e4, hk, hd, ha⟩

def AllFn (P : Program) (gr : FuncId → Option Grd) : Nat → List (Option AFn) → Prop
  | _, [] => True
  | i, none :: r => AllFn P gr (i + 1) r
  | i, some fn :: r => ((gr i = none → FnOK P i fn) ∧ ∀ gd, gr i = some gd → GrdOK P i fn gd) ∧ AllFn P gr (i + 1) r
theorem AllFn.get {P : Program} {gr : FuncId → Option Grd} : ∀ {l : List (Option AFn)} {i k fn}, AllFn P gr i l → l[k]? = some (some fn) → (gr (i + k) = none → FnOK P (i + k) fn) ∧ ∀ gd, gr (i + k) = some gd → GrdOK P (i + k) fn gd
  | [], i, k, fn, _, h => by simp at h
  | none :: r, i, k, fn, ha, h => by
    cases k with
    | zero => simp at h
    | succ k =>
      have := AllFn.get (l := r) ha (by simpa using h)
      rwa [show i + (k + 1) = i + 1 + k by omega]
  | some f :: r, i, k, fn, ha, h => by
    cases k with
    | zero => simp at h; subst h; exact ha.1
    | succ k =>
      have := AllFn.get (l := r) ha.2 (by simpa using h)
      rwa [show i + (k + 1) = i + 1 + k by omega]

theorem no_none {α : Type} {x : α} {p : Prop} (h : some x = none) : p := by cases h
theorem no_some {α : Type} {x : α} {p : Prop} (h : none = some x) : p := by cases h

def tySum (P : Program) (t : TypeId) (τ : Ty) : Option (Nat × Nat × Option (List AV) × Bool) :=
  (P.info? t).bind fun i => i.zero.bind fun z => (P.underlying t).map fun d => (i.size, i.bytes, ofVL z.cells.toList, dOK d τ)
theorem TyOK.of {P : Program} {t : TypeId} {τ : TyI} (h : tySum P t τ.d = some (τ.size, τ.bytes, some τ.zero, true)) (h2 : (τ.zero.all AV.scal && (τ.zero.length == τ.size) && AV.pureL τ.zero) = true) : TyOK P t τ := by
  unfold tySum at h
  cases hi : P.info? t with
  | none => rw [hi] at h; cases h
  | some i =>
    rw [hi] at h
    cases hz : i.zero with
    | none => simp [hz] at h
    | some z =>
      cases hd : P.underlying t with
      | none => simp [hz, hd] at h
      | some d =>
        simp only [Option.bind_some, hz, hd, Option.map_some, Option.some.injEq, Prod.mk.injEq] at h
        simp only [Bool.and_eq_true, beq_iff_eq] at h2
        exact ⟨⟨i, z, hi, h.1, h.2.1, hz, h.2.2.1, h2.1.1, h2.1.2, h2.2⟩, d, hd, h.2.2.2⟩

def tySums (P : Program) : Nat → List (Option TyI) → List (Option (Nat × Nat × Option (List AV) × Bool))
  | _, [] => []
  | i, none :: r => tySums P (i + 1) r
  | i, some τ :: r => tySum P i τ.d :: tySums P (i + 1) r
def tyTold : List (Option TyI) → List (Option (Nat × Nat × Option (List AV) × Bool))
  | [] => []
  | none :: r => tyTold r
  | some τ :: r => some (τ.size, τ.bytes, some τ.zero, true) :: tyTold r
def tyFit : List (Option TyI) → Bool
  | [] => true
  | none :: r => tyFit r
  | some τ :: r => (τ.zero.all AV.scal && (τ.zero.length == τ.size) && AV.pureL τ.zero) && tyFit r
theorem tys_get {P : Program} : ∀ {l : List (Option TyI)} {i k τ}, tySums P i l = tyTold l → tyFit l = true → l[k]? = some (some τ) → TyOK P (i + k) τ
  | [], i, k, τ, _, _, h => by simp at h
  | none :: r, i, k, τ, ha, hf, h => by
    cases k with
    | zero => simp at h
    | succ k =>
      have := tys_get (l := r) ha hf (by simpa using h)
      rwa [show i + (k + 1) = i + 1 + k by omega]
  | some f :: r, i, k, τ, ha, hf, h => by
    simp only [tySums, tyTold, List.cons.injEq] at ha
    simp only [tyFit, Bool.and_eq_true] at hf
    cases k with
    | zero => simp at h; subst h; exact TyOK.of ha.1 (by simp only [Bool.and_eq_true]; exact hf.1)
    | succ k =>
      have := tys_get (l := r) ha.2 hf.2 (by simpa using h)
      rwa [show i + (k + 1) = i + 1 + k by omega]
def cmps : Nat → List (Option TyI) → List (TypeId × List AV)
  | _, [] => []
  | i, none :: r => cmps (i + 1) r
  | i, some τ :: r => if τ.cmp then (i, τ.zero) :: cmps (i + 1) r else cmps (i + 1) r
theorem cmps_get : ∀ {l : List (Option TyI)} {i k τ}, l[k]? = some (some τ) → τ.cmp = true → (i + k, τ.zero) ∈ cmps i l
  | [], i, k, τ, h, _ => by simp at h
  | none :: r, i, k, τ, h, hc => by
    cases k with
    | zero => simp at h
    | succ k =>
      have := cmps_get (l := r) (i := i + 1) (k := k) (by simpa using h) hc
      rw [show i + (k + 1) = i + 1 + k by omega]; exact this
  | some f :: r, i, k, τ, h, hc => by
    unfold cmps
    cases k with
    | zero => simp at h; subst h; simp [hc]
    | succ k =>
      have := cmps_get (l := r) (i := i + 1) (k := k) (by simpa using h) hc
      rw [show i + (k + 1) = i + 1 + k by omega]
      split
      · exact List.mem_cons_of_mem _ this
      · exact this


theorem getT_some {α} : ∀ {l : List (Option α)} {i : Nat} {x : α}, getT l i = some x → l[i]? = some (some x)
  | [], i, x, h => by simp [getT] at h
  | y :: r, 0, x, h => by simp [getT] at h; simp [h]
  | y :: r, i + 1, x, h => by simpa using getT_some (l := r) (i := i) h

theorem EnvOK.of {P : Program} {E : Env} {l : List (Option TyI)} (hE : E.ty = getT l) (h1 : tySums P 0 l = tyTold l) (h2 : tyFit l = true) (h3 : ∀ t ∈ cmps 0 l, CmpOK P t.1 t.2) (h4 : ∀ f, E.ext f = true → ExtOK P f) : EnvOK P E where
  ext := h4
  ty := fun t τ h => by
    rw [hE] at h
    have := tys_get (i := 0) h1 h2 (getT_some h)
    rwa [Nat.zero_add] at this
  cmp := fun t τ h hc => by
    rw [hE] at h
    have := cmps_get (i := 0) (getT_some h) hc
    rw [Nat.zero_add] at this
    exact h3 _ this
theorem FnsOK.of {P : Program} {E : Env} {l : List (Option AFn)} (hE : E.fn = getT l) (h : AllFn P E.grd 0 l) (hp : ∀ f p, E.prim f = some p → PrimOK P E f p) : FnsOK P E where
  fn := fun f fn hf hg => by
    rw [hE] at hf
    have := AllFn.get h (getT_some hf)
    rw [Nat.zero_add] at this
    exact this.1 hg
  grd := fun f fn gd hf hg => by
    rw [hE] at hf
    have := AllFn.get h (getT_some hf)
    rw [Nat.zero_add] at this
    exact this.2 gd hg
  prim := hp

def isT (r : Option (ARes × Heap)) : Bool := match r with
  | some (.ret (.bool true), _) => true
  | _ => false
theorem isT_some {r : Option (ARes × Heap)} (h : isT r = true) : ∃ g, r = some (.ret (.bool true), g) := by
  unfold isT at h
  split at h
  · exact ⟨_, rfl⟩
  · cases h

def cx0 (w : World) : Cx := ⟨w, fun b => b < w.heap.size, fun _ => (0, 0), []⟩
/-- What stands behind a law: the evaluator's word is the program's. -/
theorem law_true {P : Program} {E : Env} (O : EnvOK P E) (Fs : FnsOK P E) (hm : P.follows .mixedOrders = true) {n : Nat} {f : FuncId} {args : List AV} {vals : List Value} {h : Heap} {w : World} (G : GOK E (cx0 w))
    (hrun : aCall E n 0 f args [] = some (.ret (.bool true), h)) (hv : RVs (cx0 w) args vals) :
    ∃ g vals', (callFunc f ⟨vals⟩).run P w = .ok (.enter g vals') w ∧ Calls P g vals' w fun e w' => e = .returned (.bool true) ∧ w'.os = w.os ∧ w'.tape = w.tape ∧ w'.output = w.output ∧ w.heap.size ≤ w'.heap.size ∧ ∀ b, b < w.heap.size → w'.heap[b]? = w.heap[b]? := by
  let c : Cx := cx0 w
  have no : ∀ k o, lookK c.h k = some o → False := fun k o hk => by cases hk
  have H : HR w.heap.size c := ⟨fun k o hk => (no k o hk).elim, fun k o hk => (no k o hk).elim, fun k o hk => (no k o hk).elim, fun k o _ _ hk => (no k o hk).elim, fun b hb => hb⟩
  obtain ⟨g, vals', h1, h2⟩ := aCall_sound O Fs (draw_sound O hm) n w.heap.size c 0 f args vals _ _ hrun H (Nat.le_refl _) G hv
  refine ⟨g, vals', h1, h2.mono ?_⟩
  rintro e w' ⟨c', rfl, _, H', X, val, rfl, hr⟩
  cases hr
  exact ⟨rfl, X.os, X.tape, X.output, X.size, fun b hb => X.frame b hb fun ⟨k, o, hk, _⟩ => by cases hk⟩

end Ab
