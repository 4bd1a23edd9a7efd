/- The octets of a subidentifier, in plain Lean. No conditions. -/
import Derived.Test.YtbiildmljbcmeaaDoorB2
set_option linter.unusedSimpArgs false
set_option linter.unusedVariables false
namespace OG
def top (v:Int):Nat:=if v < 128 then 0 else if v < 16384 then 1 else if v < 2097152 then 2 else if v < 268435456 then 3 else 4
def oct (v:Int) (k:Nat):Int:=v / 2 ^ (7 * k) % 128 + if k=0 then 0 else 128
def grp (v:Int):List Int:=match top v with
  | 0 => [oct v 0]
  | 1 => [oct v 1,oct v 0]
  | 2 => [oct v 2,oct v 1,oct v 0]
  | 3 => [oct v 3,oct v 2,oct v 1,oct v 0]
  | _ => [oct v 4,oct v 3,oct v 2,oct v 1,oct v 0]
theorem top_le (v:Int):top v ≤ 4:=by unfold top; split <;> (try split) <;> (try split) <;> (try split) <;> omega
theorem top_is (v:Int) (k:Nat) (h:top v ≤ k) (hh:k=0 ∨ v / 2 ^ (7 * k) ≠ 0) (v0:0 ≤ v) (hk:k ≤ 4):top v=k:=by
  unfold top at h ⊢
  have hk5:k=0 ∨ k=1 ∨ k=2 ∨ k=3 ∨ k=4:=by omega
  rcases hk5 with rfl | rfl | rfl | rfl | rfl <;> simp at hh <;> split <;> (try split) <;> (try split) <;> (try split) <;> simp_all <;> omega
theorem top_pred (v:Int) (k:Nat) (h:top v ≤ k + 1) (hh:v / 2 ^ (7 * (k + 1))=0) (v0:0 ≤ v) (hk:k ≤ 3):top v ≤ k:=by
  unfold top at h ⊢
  have hk5:k=0 ∨ k=1 ∨ k=2 ∨ k=3:=by omega
  rcases hk5 with rfl | rfl | rfl | rfl <;> simp at hh <;> split <;> (try split) <;> (try split) <;> (try split) <;> simp_all <;> omega
end OG
