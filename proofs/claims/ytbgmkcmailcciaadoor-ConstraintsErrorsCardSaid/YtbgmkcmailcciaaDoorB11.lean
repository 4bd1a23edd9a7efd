/- append and copy. Own work, no conditions. -/
import Derived.Test.YtbgmkcmailcciaaDoorB10
set_option linter.unusedVariables false
set_option linter.unusedSimpArgs false
namespace Ab
open Go

theorem growBy_le (need : Nat) (hn : 256 ≤ need) : ∀ r c, c ≤ 2 * need → Builtin.growBy need r c ≤ 2 * need
  | 0, c, h => h
  | r + 1, c, h => by
    unfold Builtin.growBy
    split
    · exact h
    · exact growBy_le need hn r _ (by omega)
theorem nextslicecap_le {need old : Nat} (h : old < need) : Builtin.nextslicecap need old ≤ 2 * need := by
  unfold Builtin.nextslicecap
  split
  · omega
  · split
    · omega
    · exact growBy_le need (by omega) _ _ (by omega)

theorem append_room {P E} (O : EnvOK P E) {t e a b z m τ t2 τ2} {ts : Array TypeId} {ty : TypeId} {args : Array Value} {base : Option Addr} {sLen sCap n : Nat} {vx : Value} {w w' : World} {new : Array Value}
    (ht : E.ty t = some ⟨.slice e, a, b, z, m⟩) (he : E.ty e = some τ) (hts : ts[0]? = some t) (hts2 : ts[1]? = some t2) (ht2 : E.ty t2 = some τ2) (hni : ∀ k, τ2.d ≠ .int k)
    (h0 : args[0]? = some (.slice base sLen sCap)) (h1 : args[1]? = some vx) (hn : (Builtin.lenOf vx).run P w = .ok n w) (hroom : sLen + n ≤ sCap)
    (hf : (Builtin.firstCells τ.size n vx).run P w = .ok new w) (hs : ∀ a, base = some a → (storeCells (a.add (sLen * τ.size)) new.toList).run P w = .ok () w') (hb0 : base = none → w' = w) :
    (Builtin.append_ ts ty args).run P w = .ok (.slice base (sLen + n) sCap) w' := by
  obtain ⟨d2, hd2, hd2'⟩ := under_of O ht2
  have hni2 : ∀ k, d2 ≠ .int k := by
    intro k hk; subst hk
    cases hτ : τ2.d <;> simp [dOK, hτ] at hd2'
    exact hni _ hτ
  unfold Builtin.append_
  simp only [hts, h0, h1, hts2, Sem.run_bind, run_underlying (under_slice O ht), Result.andThen_ok, run_size O he, run_underlying hd2, Sem.run_pure]
  cases d2
  case int k => exact absurd rfl (hni2 k)
  all_goals
    simp only [Bool.false_eq_true, if_false, Sem.run_bind, hn, Result.andThen_ok, hroom, if_true, Bool.not_false, hf]
    cases base with
    | none => simp [hb0 rfl]
    | some a => simp [hs a rfl]

theorem append_grow {P E} (O : EnvOK P E) {t e a b z m τ t2 τ2} {ts : Array TypeId} {ty : TypeId} {args : Array Value} {base : Option Addr} {sLen sCap n : Nat} {vx : Value} {w : World} {old new : Array Value}
    (ht : E.ty t = some ⟨.slice e, a, b, z, m⟩) (he : E.ty e = some τ) (hts : ts[0]? = some t) (hts2 : ts[1]? = some t2) (ht2 : E.ty t2 = some τ2) (hni : ∀ k, τ2.d ≠ .int k)
    (h0 : args[0]? = some (.slice base sLen sCap)) (h1 : args[1]? = some vx) (hn : (Builtin.lenOf vx).run P w = .ok n w) (hroom : sCap < sLen + n)
    (hsz : (sLen + n) * τ.bytes ≤ 70368744177664) (hb : 0 < τ.bytes)
    (hf : ∀ w', w'.heap = w.heap → (Builtin.firstCells τ.size n vx).run P w' = .ok new w') (hf0 : ∀ w', w'.heap = w.heap → (Builtin.firstCells τ.size sLen (.slice base sLen sCap)).run P w' = .ok old w') :
    ∃ (cap : Nat) (rest : Array Value), sLen + n ≤ cap ∧ rest.size = (cap - (sLen + n)) * τ.size ∧
    (Builtin.append_ ts ty args).run P w = .ok (.slice (some ⟨w.heap.size, 0, none⟩) (sLen + n) cap) { w with heap := w.heap.push (.cells (old ++ new ++ rest) e (0, 0)), drawn := w.drawn + 1 } := by
  obtain ⟨d2, hd2, hd2'⟩ := under_of O ht2
  have hni2 : ∀ k, d2 ≠ .int k := by
    intro k hk; subst hk
    cases hτ : τ2.d <;> simp [dOK, hτ] at hd2'
    exact hni _ hτ
  obtain ⟨i, zv, i1, i2, i3, i4, i5, i6, i7⟩ := zero_info O he
  have hzs : zv.cells.size = τ.size := by
    have := (i5 ⟨w, fun _ => True, fun _ => (0, 0), []⟩).length; simp at this; omega
  have hle : sLen + n ≤ 70368744177664 := by
    have : (sLen + n) * 1 ≤ (sLen + n) * τ.bytes := Nat.mul_le_mul_left _ hb
    omega
  have hnext : ¬ (Builtin.nextslicecap (sLen + n) sCap * τ.bytes > 2 ^ 48) := by
    have h2 := nextslicecap_le hroom
    have : Builtin.nextslicecap (sLen + n) sCap * τ.bytes ≤ 2 * (sLen + n) * τ.bytes := Nat.mul_le_mul_right _ h2
    have h3 : 2 * (sLen + n) * τ.bytes = 2 * ((sLen + n) * τ.bytes) := by rw [Nat.mul_assoc]
    omega
  have hmax : ¬ (((sLen + n : Nat) : Int) > IntKind.i64.max) := by
    simp [IntKind.max, IntKind.signed, IntKind.bits]; omega
  let cap := (Question.appendCap (sLen + n) sCap e).cut (w.tape w.drawn (.appendCap (sLen + n) sCap e))
  have hcap : sLen + n ≤ cap := by show _ ≤ _ + _; omega
  refine ⟨cap, Builtin.zeroCells zv.cells (cap - (sLen + n)), hcap, by simp [Builtin.zeroCells, hzs], ?_⟩
  unfold Builtin.append_
  simp only [hts, h0, h1, hts2, Sem.run_bind, run_underlying (under_slice O ht), Result.andThen_ok, run_size O he, run_underlying hd2, Sem.run_pure]
  have hnr : ¬ (sLen + n ≤ sCap) := by omega
  cases d2
  case int k => exact absurd rfl (hni2 k)
  all_goals
    simp only [Bool.false_eq_true, if_false, Sem.run_bind, hn, Result.andThen_ok, hnr, Bool.not_false, if_true, typeInfo, run_program, i1, i4, Sem.run_pure, hmax, false_and, hnext, run_choose, Question.forced, run_askRoom]
    rw [hf0 { w with drawn := w.drawn + 1 } rfl]
    simp only [Result.andThen_ok]
    rw [hf { w with drawn := w.drawn + 1 } rfl]
    simp only [Result.andThen_ok, zeroValue, typeInfo, Sem.run_bind, run_program, i1, i2, Sem.run_pure, newRow, run_newObj]
    rfl

end Ab
