/- Calls and whole numbers, for simp. Own work, no conditions. -/
import Derived.Test.YtbgmkcmailcciaaDoorB28
set_option linter.unusedVariables false
set_option linter.unusedSimpArgs false
namespace Ab
open Go

/-- A call of a translated function, its arguments handed over. -/
def cax (E : Env) (call : CallF) (k lvl n : Nat) (d : Option Nat) (r : List Oper) (s : St) (f : FuncId) : Option (List AV × Heap) → Option (AExit × St)
  | some (args, h) => if AV.pureL args then nxc E call lvl n d r s (aCall E k 0 f args h) else none
  | none => none
section
variable {E : Env} {call : CallF} {lvl n k : Nat} {d : Option Nat} {r : List Oper} {t : Fr} {h : Heap} {f : FuncId} {args : List AV}
theorem sealed_cax {run : RunF} : sealed run (d.getD 0) f args h = match sealLW (sealA 20) h args with
    | some (args', h1) => if AV.pureL args' then sealed run 0 f args' h1 else none
    | none => none := by
  unfold sealed
  cases hs : sealLW (sealA 20) h args with
  | none => rfl
  | some p =>
    obtain ⟨args', h1⟩ := p
    simp only
    by_cases hq : AV.pureL args' = true
    · simp only [hq, if_true]
      rw [sealL_of_pure 19 args' h1 hq]
      simp only [hq, if_true]
    · simp only [hq, if_false, Bool.false_eq_true]
theorem s_calls : nx E (aCall E k) lvl n d r ⟨t, h⟩ (some (.call f args)) = cax E (aCall E k) k lvl n d r ⟨t, h⟩ f (sealLW (sealA 20) h args) := by
  show nxc E (aCall E k) lvl n d r ⟨t, h⟩ (aCall E k (d.getD 0) f args h) = _
  unfold aCall
  rw [sealed_cax]
  cases sealLW (sealA 20) h args with
  | none => rfl
  | some p =>
    obtain ⟨args', h1⟩ := p
    simp only [cax]
    split
    · rfl
    · rfl
theorem s_cax {args h1} : cax E call k lvl n d r ⟨t, h⟩ f (some (args, h1)) = if AV.pureL args = true then nxc E call lvl n d r ⟨t, h⟩ (aCall E k 0 f args h1) else none := rfl
/-- A call in a region whose order is open, handed plain values; and handed others. -/
theorem s_callP : nx E (dcall (aRun E k)) lvl n d r ⟨t, h⟩ (some (.call f args)) = if AV.pureL args = true then nxc E (dcall (aRun E k)) lvl n d r ⟨t, h⟩ (aCall E k 0 f args h) else
    match sealLW (sealA 20) h args with
    | some (args', _) => if AV.pureL args' = true ∧ pureKs h (AV.keysL args) = true then nxc E (dcall (aRun E k)) lvl n d r ⟨t, h⟩ (lookR h (aCall E k 0 f args' h)) else none
    | none => none := by
  have key : dcall (aRun E k) (d.getD 0) f args h = if AV.pureL args = true then aCall E k 0 f args h else
      match sealLW (sealA 20) h args with
      | some (args', _) => if AV.pureL args' = true ∧ pureKs h (AV.keysL args) = true then lookR h (aCall E k 0 f args' h) else none
      | none => none := rfl
  show nxc E (dcall (aRun E k)) lvl n d r ⟨t, h⟩ (dcall (aRun E k) (d.getD 0) f args h) = _
  rw [key]
  split
  · rfl
  · cases sealLW (sealA 20) h args with
    | none => rfl
    | some p =>
      obtain ⟨args', h1⟩ := p
      simp only
      split
      · rfl
      · rfl
/-- A call out of a function that hands its own things to some. -/
def stx' (E : Env) (fn : AFn) (k lvl n : Nat) (d : Option Nat) (r : List Oper) (s : St) (f : FuncId) (args : List AV) : Option (List Bool × Bool) → Option (AExit × St)
  | none => cax E (site fn (aRun E k)) k lvl n d r s f (sealLW (sealA 20) s.h args)
  | some (m, sr) => nxc E (site fn (aRun E k)) lvl n d r s (opened m sr (aRun E k) (d.getD 0) f args s.h)
theorem s_site {fn : AFn} : nx E (site fn (aRun E k)) lvl n d r ⟨t, h⟩ (some (.call f args)) = stx' E fn k lvl n d r ⟨t, h⟩ f args (fn.opn f) := by
  show nxc E (site fn (aRun E k)) lvl n d r ⟨t, h⟩ (site fn (aRun E k) (d.getD 0) f args h) = _
  unfold site
  cases ho : fn.opn f with
  | none =>
    simp only [stx']
    rw [sealed_cax]
    cases sealLW (sealA 20) h args with
    | none => rfl
    | some p =>
      obtain ⟨args', h1⟩ := p
      simp only [cax]
      split
      · rfl
      · rfl
  | some p => rfl
theorem s_stxN {fn : AFn} {s : St} : stx' E fn k lvl n d r s f args none = cax E (site fn (aRun E k)) k lvl n d r s f (sealLW (sealA 20) s.h args) := rfl
theorem s_stxO {fn : AFn} {s : St} {m sr} : stx' E fn k lvl n d r s f args (some (m, sr)) = nxc E (site fn (aRun E k)) lvl n d r s (opened m sr (aRun E k) (d.getD 0) f args s.h) := rfl
def opx (sr : Bool) (slot : Nat) (run : List AV → Heap → Option (ARes × Heap)) : Option (List AV × Heap) → Option (ARes × Heap)
  | some (args', h1) => lendA (dd (reach h1 3 (AV.keysL args'))) slot h1 args' sr run
  | none => none
theorem s_opened {m sr slot} : opened m sr (aRun E k) slot f args h = opx sr slot (aRun E k f) (sealM (sealA 20) m h args) := by
  unfold opened
  cases sealM (sealA 20) m h args with
  | none => rfl
  | some p => rfl
theorem s_opx {sr slot run args' h1} : opx sr slot run (some (args', h1)) = lendA (dd (reach h1 3 (AV.keysL args'))) slot h1 args' sr run := rfl
theorem s_retp {ch} : nxc E call lvl n d r ⟨t, h⟩ (some (.panic ch, h)) = some (.panic ch, ⟨t, h⟩) := rfl
end

theorem w_u8 (n : Int) : IntKind.u8.wrap n = n % 256 := by simp [IntKind.wrap, IntKind.signed, IntKind.bits]
theorem w_u32 (n : Int) : IntKind.u32.wrap n = n % 4294967296 := by simp [IntKind.wrap, IntKind.signed, IntKind.bits]
theorem w_u64 (n : Int) : IntKind.u64.wrap n = n % 18446744073709551616 := by simp [IntKind.wrap, IntKind.signed, IntKind.bits]
theorem w_i64 (n : Int) (h1 : -9223372036854775808 ≤ n) (h2 : n < 9223372036854775808) : IntKind.i64.wrap n = n := by
  simp only [IntKind.wrap, IntKind.signed, IntKind.bits]
  simp
  split <;> omega
theorem w_fdiv (n m : Int) (h : 0 ≤ m) : n.fdiv m = n / m := Int.fdiv_eq_ediv_of_nonneg n h
theorem w_tdiv (n m : Int) (h : 0 ≤ n) : n.tdiv m = n / m := Int.tdiv_eq_ediv_of_nonneg h
theorem w_tmod (n m : Int) (h : 0 ≤ n) : n.tmod m = n % m := Int.tmod_eq_emod_of_nonneg h
end Ab
