/- LengthsKnown: the law answers true. No conditions. -/
import Derived.Test.YtalmnhdnclmhbaaM12
import Derived.Test.YtalmnhdnclmhbaaM10
import Derived.Test.YtalmnhdnclmhbaaB35
import Derived.Test.YtalmnhdnclmhbaaM3
import Derived.Test.YtalmnhdnclmhbaaTabBTie
import Derived.KernelRfl
open Ab Go TabB
set_option maxRecDepth 100000
set_option linter.unusedVariables false
namespace M14
def byB (xs : List AV) : Bool := xs.all fun
  | .int .u8 n => decide (0 ≤ n ∧ n < 256)
  | _ => false
theorem byB_bs : ∀ xs, byB xs = true → ∃ l, xs = bs l ∧ isB l
  | [], _ => ⟨[], rfl, isB_nil⟩
  | x :: r, h => by
    unfold byB at h
    rw [List.all_cons, Bool.and_eq_true] at h
    obtain ⟨l, rfl, hl⟩ := byB_bs r h.2
    have h1 := h.1
    split at h1
    · rename_i n
      exact ⟨n :: l, rfl, isB_cons.2 ⟨of_decide_eq_true h1, hl⟩⟩
    · cases h1
def p3 : List AV → Option AV
  | [.int .i64 _] => some (.bool true)
  | _ => none
def p4 : List AV → Option AV
  | [.int .u32 n, .sl _ xs _, .int .u8 l] => if 0 ≤ n ∧ 0 ≤ l ∧ l < 256 ∧ byB xs = true then some (.bool true) else none
  | _ => none
def p5 : List AV → Option AV
  | [.sl _ xs _] => if byB xs = true then some (.bool true) else none
  | _ => none
def p16 : List AV → Option AV
  | [] => some (.bool true)
  | _ => none
def prims : FuncId → Option (List AV → Option AV)
  | 3 => some p3
  | 4 => some p4
  | 5 => some p5
  | 16 => some p16
  | _ => none
def E2 : Env := { E with prim := prims }
theorem known : isT (aCall E2 1000 0 7 [] []) = true := by kernel_rfl
theorem env2 : EnvOK Go.Proofs.Try.prog E2 := .of rfl tySums_ok tyFit_ok cmpOK extOK
theorem fns2 : FnsOK Go.Proofs.Try.prog E2 := .of rfl allFn (by
  intro f p h
  have h : prims f = some p := h
  unfold prims at h
  split at h
  · cases h
    refine prim_of (E2 := E2) env fnsOK mixed rfl E_fn3 rfl fun args v h => ?_
    unfold p3 at h
    split at h
    · cases h; exact ⟨_, M3.put _⟩
    · cases h
  · cases h
    refine prim_of (E2 := E2) env fnsOK mixed rfl E_fn4 rfl fun args v h => ?_
    unfold p4 at h
    split at h
    · split at h
      · rename_i hc
        cases h
        obtain ⟨l, rfl, hl⟩ := byB_bs _ hc.2.2.2
        exact ⟨_, M12.back _ _ _ _ _ hc.1 hc.2.1 hc.2.2.1⟩
      · cases h
    · cases h
  · cases h
    refine prim_of (E2 := E2) env fnsOK mixed rfl E_fn5 rfl fun args v h => ?_
    unfold p5 at h
    split at h
    · split at h
      · rename_i hc
        cases h
        obtain ⟨l, rfl, hl⟩ := byB_bs _ hc
        exact ⟨_, M10.get _ _ _ hl⟩
      · cases h
    · cases h
  · cases h
    refine prim_of (E2 := E2) env fnsOK mixed rfl E_fn16 rfl fun args v h => ?_
    unfold p16 at h
    split at h
    · cases h; exact ⟨_, M1.lives⟩
    · cases h
  · cases h)
end M14
