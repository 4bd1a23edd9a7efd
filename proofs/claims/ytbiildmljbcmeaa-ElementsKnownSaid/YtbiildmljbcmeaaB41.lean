/- The evaluator: own work, no conditions. -/
import Derived.Test.YtbiildmljbcmeaaB40
import Derived.ChangeArms
/- What a laid argument is, for the evaluator: numbers, bools, strings, slices, structs and arrays of them. Own work, no conditions. -/
set_option linter.unusedVariables false
set_option linter.unusedSimpArgs false
namespace Ab
open Go
def aggTy (P : Program) (e : TypeId) : Bool := match P.underlying e with
  | some (.struct _) | some (.array _ _) => true
  | _ => false
def Shp (P : Program) : Nat → TypeId → List AV → Prop
  | 0, _, _ => False
  | n + 1, t, cs =>
    match P.underlying t with
    | some .bool => ∃ b, cs = [.bool b]
    | some (.int k) => ∃ x, cs = [.int k x] ∧ (Lit.int k x).wf = true
    | some .string => ∃ l, cs = [.str l]
    | some (.slice e) => ∃ f xs, cs = [.sl f xs none] ∧ (f = true → xs = []) ∧ xs.length ≤ maxLen ∧ ∀ x ∈ xs, Shp P n e x.cells ∧ x.scal = !aggTy P e
    | some (.struct fs) => cs.length = P.cellsOf t ∧ ∀ f ∈ fs.toList, Shp P n f.type ((cs.drop f.offset).take (P.cellsOf f.type))
    | some (.array m e) => cs.length = P.cellsOf t ∧ ∀ i, i < m → Shp P n e ((cs.drop (i * P.cellsOf e)).take (P.cellsOf e))
    | _ => False
def layF (P : Program) (S : TypeId → Bool) : List Field → Nat → Option Nat
  | [], k => some k
  | f :: r, k => if f.offset = k ∧ S f.type = true then layF P S r (k + P.cellsOf f.type) else none
def okTy (P : Program) (S : TypeId → Bool) (t : TypeId) : Bool := match P.underlying t with
  | some .bool | some (.int _) | some .string => P.cellsOf t == 1
  | some (.slice e) => P.cellsOf t == 1 && S e && decide (0 < P.cellsOf e)
  | some (.struct fs) => layF P S fs.toList 0 == some (P.cellsOf t)
  | some (.array m e) => S e && P.cellsOf t == m * P.cellsOf e
  | _ => false
structure Std (c : Cx) (cs : List Value) (avs : List AV) : Prop where
  rv : RVs c avs cs
  sc : ∀ x ∈ avs, x.scal = true
  pu : ∀ x ∈ avs, x.pure = true
theorem Std.length {c : Cx} {a x} (h : Std c x a) : a.length = x.length := h.rv.length
theorem Std.nil {c : Cx} : Std c [] [] := ⟨.nil, fun _ h => (by cases h), fun _ h => (by cases h)⟩
section
variable {H : Type} {enc : TypeId × Value → H} {P : Program} {W : World}
end
end Ab

/- What the evaluator may know of a laid argument. Own work, no conditions. -/
set_option linter.unusedVariables false
set_option linter.unusedSimpArgs false
namespace Ab
open Go
theorem allTy {P : Program} {L : List TypeId} (h : L.all (okTy P fun t => L.contains t) = true) : ∀ t, L.contains t = true → okTy P (fun t => L.contains t) t = true := fun t ht => List.all_eq_true.1 h t (by simpa using ht)
section
variable {H : Type} {enc : TypeId × Value → H} {P : Program} {W : World}
end
section
variable {P : Program} {n : Nat} {t : TypeId}
theorem Shp.slice {e : TypeId} {cs : List AV} (h : Shp P n t cs) (hu : P.underlying t = some (.slice e)) : ∃ m f xs, n = m + 1 ∧ cs = [.sl f xs none] ∧ xs.length ≤ maxLen ∧ ∀ x ∈ xs, Shp P m e x.cells ∧ x.scal = !aggTy P e := by
  cases n with
  | zero => exact h.elim
  | succ n =>
    unfold Shp at h
    rw [hu] at h
    obtain ⟨f, xs, h1, _, h2, h3⟩ := h
    exact ⟨n, f, xs, rfl, h1, h2, h3⟩
theorem Shp.nil {e : TypeId} {f : Bool} {xs : List AV} {c : Option Nat} (h : Shp P n t [.sl f xs c]) (hu : P.underlying t = some (.slice e)) : f = true → xs = [] := by
  cases n with
  | zero => exact h.elim
  | succ n =>
    unfold Shp at h
    rw [hu] at h
    obtain ⟨f', xs', h1, h0, h2, h3⟩ := h
    simp only [List.cons.injEq, AV.sl.injEq, and_true] at h1
    obtain ⟨rfl, rfl, _⟩ := h1
    exact h0
end
end Ab
