/- Numbers of elements, levels and octets, in plain Lean. No conditions. -/
import Derived.Test.YtbiildmljbcmeaaE13
import Derived.Test.YtbiildmljbcmeaaE17
open Ab Go TabE Sp E13
set_option linter.unusedVariables false
set_option linter.unusedSimpArgs false
namespace Sp
mutual
def cnt : Cr → Int
  | .mk _ _ _ _ s => 1 + cnts s
def cnts : List Cr → Int
  | [] => 0
  | x :: r => cnt x + cnts r
end
theorem cnt_eq (e : El) : cnt e.core = 1 + cnts (El.cores e.s) := by rw [El.core_eq, cnt]
mutual
theorem cnt_pos : ∀ c : Cr, 1 ≤ cnt c
  | .mk _ _ _ _ s => by unfold cnt; have := cnts_pos s; omega
theorem cnts_pos : ∀ s : List Cr, 0 ≤ cnts s
  | [] => by unfold cnts; omega
  | x :: r => by unfold cnts; have := cnt_pos x; have := cnts_pos r; omega
end
mutual
theorem cnt_many : ∀ (c : Cr) (m : Int), 1 ≤ m → many c m ≤ m → cnt c = many c m
  | .mk _ _ _ _ s, m, h0, h => by
    unfold many at h ⊢
    rw [if_neg (by omega)] at h ⊢
    unfold cnt
    rw [cnts_many s m 1 (by omega) (by omega) h]
theorem cnts_many : ∀ (s : List Cr) (m n : Int), 1 ≤ n → n ≤ m → manys s m n ≤ m → n + cnts s = manys s m n
  | [], m, n, h0, h1, h => by unfold manys cnts; omega
  | x :: r, m, n, h0, h1, h => by
    unfold manys at h ⊢
    rw [if_pos h1] at h ⊢
    unfold cnts
    have b := many_le x (m - n)
    by_cases q : n + many x (m - n) ≤ m
    · have a := cnts_many r m (n + many x (m - n)) (by omega) q h
      have c := cnt_many x (m - n) (by omega) (by omega)
      omega
    · cases r with
      | nil => unfold manys at h; omega
      | cons y r => unfold manys at h; rw [if_neg q] at h; omega
end
mutual
theorem dep_cnt : ∀ c : Cr, dep c ≤ cnt c
  | .mk _ _ _ _ s => by unfold dep cnt; have := deps_cnt s; omega
theorem deps_cnt : ∀ s : List Cr, deps s ≤ cnts s
  | [] => by unfold deps cnts; omega
  | x :: r => by unfold deps cnts; have := dep_cnt x; have := deps_cnt r; have := cnt_pos x; have := cnts_pos r; omega
end
mutual
theorem chk_dep : ∀ (c : Cr) (d m l : Int), (chk c d m l).1 = 0 → (chk c d m l).2.2 = max l (d + dep c - 1) ∧ (chk c d m l).2.1 = m + cnt c ∧ d ≤ 16
  | .mk c k n b s, d, m, l, h => by
    unfold chk at h ⊢
    unfold dep cnt
    by_cases h1 : tagE c k n = 0
    case neg => rw [if_pos h1] at h; exact absurd h h1
    rw [if_neg (by simp [h1])] at h ⊢
    by_cases h2 : (k = true ∧ b ≠ []) ∨ (k = false ∧ s ≠ [])
    · rw [if_pos h2] at h; cases h
    rw [if_neg h2] at h ⊢
    by_cases h3 : 16 < d
    · rw [if_pos h3] at h; cases h
    rw [if_neg h3] at h ⊢
    by_cases h4 : m = 8192
    · rw [if_pos h4] at h; cases h
    rw [if_neg h4] at h ⊢
    have dp := deps_pos s
    have := chks_dep s (d + 1) (m + 1) (max l d) (by omega) h
    omega
theorem chks_dep : ∀ (s : List Cr) (d m l : Int), d - 1 ≤ l → (chks s d m l).1 = 0 → (chks s d m l).2.2 = max l (d + deps s - 1) ∧ (chks s d m l).2.1 = m + cnts s
  | [], d, m, l, hl, _ => by unfold chks deps cnts; simp only; omega
  | x :: r, d, m, l, hl, h => by
    unfold chks at h ⊢
    unfold deps cnts
    by_cases h1 : (chk x d m l).1 = 0
    · rw [if_neg (by simp [h1])] at h ⊢
      have a := chk_dep x d m l h1
      have b := chks_dep r d _ _ (by omega) h
      have := dep_pos x
      have := deps_pos r
      omega
    · rw [if_pos h1] at h; exact absurd h h1
end
end Sp
namespace E18
/-- At most so many bytes in each. -/
inductive Fw (B : Nat) : El → Prop
  | mk (e : El) : e.b.length ≤ B → (∀ x ∈ e.s, Fw B x) → Fw B e
theorem fw_bd : ∀ e : El, Bd e → Fw 200 e := by
  refine El.ind fun e ih h => ?_
  obtain ⟨_, h1, h2, _⟩ := h
  exact .mk e h1 fun x hx => ih x hx (h2 x hx)
theorem fw_len {B : Nat} : ∀ e : El, Fw B e → ((enc e.core).length : Int) ≤ (B + 9) * cnt e.core := by
  refine El.ind fun e ih h => ?_
  obtain ⟨_, h1, h2⟩ := h
  rw [enc_eq, cnt_eq, List.length_append, List.length_append, List.length_append]
  have tl := tagO_len e.c e.k e.n
  have ll := lenO_len ((e.b ++ encs (El.cores e.s)).length : Int)
  have key : ∀ l : List El, (∀ x ∈ l, ((enc x.core).length : Int) ≤ (B + 9) * cnt x.core) → ((encs (El.cores l)).length : Int) ≤ (B + 9) * cnts (El.cores l) := by
    intro l
    induction l with
    | nil => intro _; simp [El.cores, encs, cnts]
    | cons y l ih =>
      intro q
      rw [El.cores, encs, cnts, List.length_append, Int.mul_add]
      have a := q y (by simp)
      have b := ih fun x hx => q x (by simp [hx])
      omega
  have k := key e.s fun x hx => ih x hx (h2 x hx)
  rw [Int.mul_add, Int.mul_one]
  rw [List.length_append] at ll
  omega
theorem fw_sm {B : Nat} (hB : B ≤ 1000000000) : ∀ e : El, Fw B e → cnt e.core ≤ 1000000000 → e.sm := by
  refine El.ind fun e ih h hc => ?_
  obtain ⟨_, h1, h2⟩ := h
  rw [cnt_eq] at hc
  have key : ∀ l : List El, (l.length : Int) ≤ cnts (El.cores l) ∧ ∀ x ∈ l, cnt x.core ≤ cnts (El.cores l) := by
    intro l
    induction l with
    | nil => simp [El.cores, cnts]
    | cons y l ih =>
      rw [El.cores, cnts]
      have := cnt_pos y.core
      have := cnts_pos (El.cores l)
      refine ⟨by rw [List.length_cons]; omega, fun x hx => ?_⟩
      rcases List.mem_cons.1 hx with rfl | hx
      · omega
      · have := ih.2 x hx; omega
  obtain ⟨k1, k2⟩ := key e.s
  exact (El.sm_eq e).2 ⟨by omega, by omega, fun x hx => ih x hx (h2 x hx) (by have := k2 x hx; omega)⟩
end E18
