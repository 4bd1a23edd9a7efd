/- Encodings, in plain Lean. No conditions. -/
import Derived.Test.YtbiildmljbcmeaaSp
open Ab Go TabE
set_option linter.unusedVariables false
set_option linter.unusedSimpArgs false
namespace Sp
/-- The octets of a length. -/
def lenO (n : Int) : List Int := if n ≤ 127 then [n] else if n ≤ 255 then [129, n] else if n ≤ 65535 then [130, n / 256, n % 256] else [131, n / 65536, n / 256 % 256, n % 256]
mutual
def enc : Cr → List Int
  | .mk c k n b s => TG.tagO c k n ++ (lenO ((b ++ encs s).length : Int) ++ (b ++ encs s))
def encs : List Cr → List Int
  | [] => []
  | x :: r => enc x ++ encs r
end
mutual
/-- Each tag is valid, and an element has bytes or elements as its tag tells. -/
def vld : Cr → Prop
  | .mk c k n b s => tagE c k n = 0 ∧ (k = true → b = []) ∧ (k = false → s = []) ∧ vlds s
def vlds : List Cr → Prop
  | [] => True
  | x :: r => vld x ∧ vlds r
end
mutual
theorem vld_of : ∀ (c : Cr) (d m l : Int), (chk c d m l).1 = 0 → vld c
  | .mk c k n b s, d, m, l, h => by
    unfold chk at h
    unfold vld
    by_cases h1 : tagE c k n = 0
    case neg => rw [if_pos h1] at h; exact absurd h h1
    rw [if_neg (by simp [h1])] at h
    by_cases h2 : (k = true ∧ b ≠ []) ∨ (k = false ∧ s ≠ [])
    · rw [if_pos h2] at h; cases h
    rw [if_neg h2] at h
    by_cases h3 : 16 < d
    · rw [if_pos h3] at h; cases h
    rw [if_neg h3] at h
    by_cases h4 : m = 8192
    · rw [if_pos h4] at h; cases h
    rw [if_neg h4] at h
    refine ⟨h1, fun e => ?_, fun e => ?_, vlds_of s _ _ _ h⟩
    · exact Classical.byContradiction fun q => h2 (.inl ⟨e, q⟩)
    · exact Classical.byContradiction fun q => h2 (.inr ⟨e, q⟩)
theorem vlds_of : ∀ (s : List Cr) (d m l : Int), (chks s d m l).1 = 0 → vlds s
  | [], _, _, _, _ => trivial
  | x :: r, d, m, l, h => by
    unfold chks at h
    unfold vlds
    by_cases h1 : (chk x d m l).1 = 0
    · rw [if_neg (by simp [h1])] at h
      exact ⟨vld_of x d m l h1, vlds_of r _ _ _ h⟩
    · rw [if_pos h1] at h; exact absurd h h1
end
theorem enc_eq (e : El) : enc e.core = TG.tagO e.c e.k e.n ++ (lenO ((e.b ++ encs (El.cores e.s)).length : Int) ++ (e.b ++ encs (El.cores e.s))) := by rw [El.core_eq, enc]
theorem vld_eq (e : El) : vld e.core ↔ tagE e.c e.k e.n = 0 ∧ (e.k = true → e.b = []) ∧ (e.k = false → e.s = []) ∧ vlds (El.cores e.s) := by
  rw [El.core_eq, vld]
  have : El.cores e.s = [] ↔ e.s = [] := by rw [El.cores_map]; cases e.s <;> simp
  rw [this]
theorem vlds_all : ∀ {l : List El}, vlds (El.cores l) ↔ ∀ x ∈ l, vld x.core
  | [] => by simp [El.cores, vlds]
  | e :: r => by rw [El.cores, vlds, vlds_all (l := r)]; simp
theorem tagO_len (c k n) : 1 ≤ (TG.tagO c k n).length ∧ (TG.tagO c k n).length ≤ 5 := by
  have g : (TG.grp n).length ≤ 4 := by unfold TG.grp; split <;> simp
  unfold TG.tagO
  by_cases h : n < 31
  · rw [if_pos h]; simp
  · rw [if_neg h]; simp [g]
theorem lenO_len (n) : 1 ≤ (lenO n).length ∧ (lenO n).length ≤ 4 := by unfold lenO; split <;> (try split) <;> (try split) <;> simp
end Sp
namespace Ab
namespace El
mutual
/-- Nothing in it is longer than memory has it. -/
def sm : El → Prop
  | mk _ _ _ _ b _ _ s _ => b.length ≤ 1000000000 ∧ s.length ≤ 1000000000 ∧ sms s
def sms : List El → Prop
  | [] => True
  | e :: r => sm e ∧ sms r
end
theorem sms_all : ∀ {l}, sms l ↔ ∀ x ∈ l, sm x
  | [] => by simp [sms]
  | e :: r => by rw [sms, sms_all (l := r)]; simp
theorem sm_eq (e : El) : e.sm ↔ e.b.length ≤ 1000000000 ∧ e.s.length ≤ 1000000000 ∧ ∀ x ∈ e.s, x.sm := by
  cases e; rw [sm, sms_all]; rfl
end El
end Ab
