/- Calls and whole numbers, for simp. Own work, no conditions. -/
import Derived.Test.YtalmnhdnclmhbaaAb28
set_option linter.unusedVariables false
set_option linter.unusedSimpArgs false
namespace Ab
open Go

/-- A call of a translated function, its arguments handed over. -/
def cax (E : Env) (k lvl n : Nat) (d : Option Nat) (r : List Oper) (s : St) (f : FuncId) : Option (List AV × Heap) → Option (AExit × St)
  | some (args, h) => if AV.pureL args then nxc E (aCall E k) lvl n d r s (aCall E k lvl f args h) else none
  | none => none
section
variable {E : Env} {lvl n k : Nat} {d : Option Nat} {r : List Oper} {t : Fr} {h : Heap} {f : FuncId} {args : List AV}
theorem s_calls (hp : E.prim f = none) : nx E (aCall E k) lvl n d r ⟨t, h⟩ (some (.call f args)) = cax E k lvl n d r ⟨t, h⟩ f (sealLW (sealA 20) h args) := by
  show nxc E (aCall E k) lvl n d r ⟨t, h⟩ (aCall E k lvl f args h) = _
  cases k with
  | zero =>
    unfold cax
    split
    · split <;> rfl
    · rfl
  | succ k =>
    have e : ∀ args, aCall E (k + 1) lvl f args h = (match E.fn f with
      | none => none
      | some fn =>
        match sealLW (sealA 20) h args with
        | none => none
        | some (args', h1) =>
          if AV.pureL args' ∧ args'.length ≤ fn.ntmps then finA E fn h1 (aCode E (aCall E k) k 0 fn fn.body ⟨frame0 args' 0, []⟩)
          else none) := fun args => by simp only [aCall, hp]; rfl
    cases hs : sealLW (sealA 20) h args with
    | none =>
      rw [e, hs]
      cases E.fn f <;> rfl
    | some p =>
      obtain ⟨args', h1⟩ := p
      simp only [cax]
      split
      · rename_i hq
        congr 1
        rw [e, hs]
        simp only [aCall, hp, sealL_of_pure 19 args' h1 hq]
        rfl
      · rename_i hq
        rw [e, hs]
        cases E.fn f with
        | none => rfl
        | some fn => simp only [hq, false_and, if_false, Bool.false_eq_true]; rfl
theorem s_cax {args h1} : cax E k lvl n d r ⟨t, h⟩ f (some (args, h1)) = if AV.pureL args = true then nxc E (aCall E k) lvl n d r ⟨t, h⟩ (aCall E k lvl f args h1) else none := rfl
theorem s_callP {call : CallF} : nx E (pureCall call) lvl n d r ⟨t, h⟩ (some (.call f args)) = if AV.pureL args = true then nxc E (pureCall call) lvl n d r ⟨t, h⟩ (call lvl f args h) else none := by
  show nxc E (pureCall call) lvl n d r ⟨t, h⟩ (pureCall call lvl f args h) = _
  unfold pureCall
  split
  · rfl
  · rfl
end

theorem w_u8 (n : Int) : IntKind.u8.wrap n = n % 256 := by simp [IntKind.wrap, IntKind.signed, IntKind.bits]
theorem w_u32 (n : Int) : IntKind.u32.wrap n = n % 4294967296 := by simp [IntKind.wrap, IntKind.signed, IntKind.bits]
theorem w_u64 (n : Int) : IntKind.u64.wrap n = n % 18446744073709551616 := by simp [IntKind.wrap, IntKind.signed, IntKind.bits]
theorem w_i64 (n : Int) (h1 : -9223372036854775808 ≤ n) (h2 : n < 9223372036854775808) : IntKind.i64.wrap n = n := by
  simp only [IntKind.wrap, IntKind.signed, IntKind.bits]
  simp
  split <;> omega
theorem w_fdiv (n m : Int) (h : 0 ≤ m) : n.fdiv m = n / m := Int.fdiv_eq_ediv_of_nonneg n h
theorem w_tdiv (n m : Int) (h : 0 ≤ n) : n.tdiv m = n / m := Int.tdiv_eq_ediv_of_nonneg h
theorem w_tmod (n m : Int) (h : 0 ≤ n) : n.tmod m = n % m := Int.tmod_eq_emod_of_nonneg h
end Ab
