/- oids.Get in plain Lean: always sixteen arcs. No conditions. -/
import Derived.Test.YtbiildmljbcmeaaDoorOH
set_option linter.unusedSimpArgs false
set_option linter.unusedVariables false
open Ab Go
namespace OH
theorem run_len:∀ (bs ds:List Int) (v:Int) (s:Bool) (ds':List Int) (v':Int) (s':Bool),ds.length ≤ 15 → (s=false → ds.length < 15) → run bs ds v s=.inr (ds',v',s') → ds'.length ≤ 15 ∧ (s'=false → ds'.length < 15)
  | [],ds,v,s,ds',v',s',h1,h2,h => by
    simp only [run] at h
    cases h
    exact ⟨h1,h2⟩
  | b :: r,ds,v,s,ds',v',s',h1,h2,h => by
    unfold run step at h
    split at h
    case h_1 => cases h
    rename_i e1 ds1 v1 s1 e2
    split at e2
    · cases e2
    rename_i n1
    split at e2
    · cases e2
    split at e2
    · cases e2
    have hlt:ds.length < 15:=by
      cases s with
      | false => exact h2 rfl
      | true =>
        have:¬ ds.length=15:=fun q => n1 ⟨rfl,q⟩
        omega
    split at e2
    · cases e2
      exact run_len r _ _ _ ds' v' s' (by simp; omega) (fun q => by cases q) h
    · cases e2
      exact run_len r ds _ _ ds' v' s' h1 (fun _ => hlt) h
theorem arcs_len (ds:List Int) (h:ds.length ≤ 15):(arcs ds).length=16:=by
  cases ds with
  | nil => rfl
  | cons d r =>
    unfold arcs
    simp only [List.length_cons] at h
    simp
    omega
theorem get_len (bs:List Int):(get bs).2.1.length=16:=by
  unfold get
  split
  · rfl
  · split
    · rfl
    · rename_i ds v s hr
      split
      · exact arcs_len ds (run_len bs [] 0 true ds v s (by simp) (by simp) hr).1
      · rfl
end OH
namespace OH
theorem run_ne:∀ (bs ds:List Int) (v:Int) (s:Bool) (ds':List Int) (v':Int) (s':Bool),(ds ≠ [] ∨ s=false) → run bs ds v s=.inr (ds',v',s') → ds' ≠ [] ∨ s'=false
  | [],ds,v,s,ds',v',s',h1,h => by
    simp only [run] at h
    cases h
    exact h1
  | b :: r,ds,v,s,ds',v',s',h1,h => by
    unfold run step at h
    split at h
    case h_1 => cases h
    rename_i e1 ds1 v1 s1 e2
    split at e2
    · cases e2
    split at e2
    · cases e2
    split at e2
    · cases e2
    split at e2
    · cases e2
      exact run_ne r _ _ _ ds' v' s' (.inl (by simp)) h
    · cases e2
      exact run_ne r ds _ _ ds' v' s' (.inr rfl) h
theorem run_ne' (bs ds:List Int) (v:Int) (s:Bool) (ds':List Int) (v':Int) (s':Bool) (hb:bs ≠ []) (h:run bs ds v s=.inr (ds',v',s')):ds' ≠ [] ∨ s'=false:=by
  cases bs with
  | nil => exact absurd rfl hb
  | cons b r =>
    unfold run step at h
    split at h
    case h_1 => cases h
    rename_i e1 ds1 v1 s1 e2
    split at e2
    · cases e2
    split at e2
    · cases e2
    split at e2
    · cases e2
    split at e2
    · cases e2
      exact run_ne r _ _ _ ds' v' s' (.inl (by simp)) h
    · cases e2
      exact run_ne r ds _ _ ds' v' s' (.inr rfl) h
end OH
