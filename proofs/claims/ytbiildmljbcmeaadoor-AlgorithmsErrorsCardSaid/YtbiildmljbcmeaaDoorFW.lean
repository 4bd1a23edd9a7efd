/- Of few elements, in plain Lean. No conditions. -/
import Derived.Test.YtbiildmljbcmeaaDoorSr
open Ab Go TabE Sp
set_option linter.unusedVariables false
set_option linter.unusedSimpArgs false
namespace FW
mutual
def few (B S:Nat):Cr → Int → Int → Int × Int
  | .mk _ _ _ b s,l,d => if l - 1 < 0 ∨ 20 < d ∨ B < b.length ∨ S < s.length then (0,l - 1) else fews B S s (l - 1) d
def fews (B S:Nat):List Cr → Int → Int → Int × Int
  | [],l,_ => (1,l)
  | x :: r,l,d => if (few B S x l (d + 1)).1=0 then (0,(few B S x l (d + 1)).2) else fews B S r (few B S x l (d + 1)).2 d
end
mutual
theorem few_le:∀ (c:Cr) (B S:Nat) (l d:Int),(few B S c l d).2 ≤ l
  | .mk _ _ _ b s,B,S,l,d => by
    unfold few
    split
    · simp only; omega
    · have:=fews_le s B S (l - 1) d; omega
theorem fews_le:∀ (s:List Cr) (B S:Nat) (l d:Int),(fews B S s l d).2 ≤ l
  | [],B,S,l,d => by unfold fews; simp
  | x :: r,B,S,l,d => by
    unfold fews
    have a:=few_le x B S l (d + 1)
    split
    · exact a
    · have:=fews_le r B S (few B S x l (d + 1)).2 d; omega
end
mutual
theorem few_ok:∀ (c:Cr) (B S:Nat) (l d:Int),(few B S c l d).1 ≠ 0 → 0 ≤ (few B S c l d).2 ∧ (few B S c l d).2=l - cnt c ∧ d + dep c ≤ 21 ∧ (few B S c l d).1=1
  | .mk _ _ _ b s,B,S,l,d,h => by
    unfold few at h ⊢
    unfold cnt dep
    split at h
    · exact absurd rfl h
    · rename_i hc
      rw [if_neg hc]
      obtain ⟨h1,h2,h3,h4⟩:=fews_ok s B S (l - 1) d (by omega) (by omega) h
      exact ⟨h1,by omega,by omega,h4⟩
theorem fews_ok:∀ (s:List Cr) (B S:Nat) (l d:Int),0 ≤ l → d ≤ 20 → (fews B S s l d).1 ≠ 0 → 0 ≤ (fews B S s l d).2 ∧ (fews B S s l d).2=l - cnts s ∧ d + deps s ≤ 20 ∧ (fews B S s l d).1=1
  | [],B,S,l,d,h0,hd,h => by unfold fews cnts deps; simp; omega
  | x :: r,B,S,l,d,h0,hd,h => by
    unfold fews at h ⊢
    unfold cnts deps
    split at h
    · exact absurd rfl h
    · rename_i hc
      rw [if_neg hc]
      obtain ⟨a1,a2,a3,a4⟩:=few_ok x B S l (d + 1) hc
      obtain ⟨b1,b2,b3,b4⟩:=fews_ok r B S (few B S x l (d + 1)).2 d a1 hd h
      have:=deps_pos r
      have:=dep_pos x
      exact ⟨b1,by omega,by omega,b4⟩
end
inductive Fe (B S:Nat):El → Prop
  | mk (e:El):e.b.length ≤ B → e.s.length ≤ S → (∀ x ∈ e.s,Fe B S x) → Fe B S e
theorem fe_all (B S:Nat):∀ (r:List El) (l d:Int),(fews B S (El.cores r) l d).1 ≠ 0 → (∀ x ∈ r,∀ l d,(few B S x.core l d).1 ≠ 0 → Fe B S x) → ∀ x ∈ r,Fe B S x
  | [],l,d,h,ih,x,hx => by cases hx
  | y :: r,l,d,h,ih,x,hx => by
    rw [El.cores] at h
    unfold fews at h
    split at h
    · exact absurd rfl h
    · rename_i hc
      rcases List.mem_cons.1 hx with rfl | hx
      · exact ih x (by simp) _ _ hc
      · exact fe_all B S r _ _ h (fun z hz => ih z (by simp [hz])) x hx
theorem few_fe (B S:Nat):∀ (e:El) (l d:Int),(few B S e.core l d).1 ≠ 0 → Fe B S e:=by
  refine El.ind fun e ih l d h => ?_
  rw [El.core_eq e] at h
  unfold few at h
  have cl:(El.cores e.s).length=e.s.length:=by rw [El.cores_map,List.length_map]
  rw [cl] at h
  split at h
  · exact absurd rfl h
  · rename_i hc
    exact .mk e (by omega) (by omega) (fe_all B S e.s _ _ h ih)
end FW
