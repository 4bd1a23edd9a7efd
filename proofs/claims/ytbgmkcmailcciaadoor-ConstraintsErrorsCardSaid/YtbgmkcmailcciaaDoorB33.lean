/- An argument that is a row of bytes. Own work, no conditions. -/
import Derived.Test.YtbgmkcmailcciaaDoorB31
import Derived.ChangeSlices
set_option linter.unusedVariables false
set_option linter.unusedSimpArgs false
namespace Ab
open Go
theorem bytes_cells : ∀ xs : List Int, (xs.map (Value.int .u8)).flatMap (·.cells.toList) = xs.map (Value.int .u8)
  | [] => rfl
  | x :: r => by rw [List.map_cons, List.flatMap_cons, bytes_cells r]; rfl
theorem bytes_RVs (c : Cx) : ∀ xs : List Int, RVs c (bs xs) (xs.map (Value.int .u8))
  | [] => .nil
  | x :: r => .cons _ _ _ _ (.int _ _) (bytes_RVs c r)
theorem row_RV {W : World} {a : Option Addr} {len cap : Nat} {zs : List Int}
    (h : (a = none ∧ len = 0 ∧ cap = 0 ∧ zs = []) ∨ ∃ x, a = some x ∧ len ≤ cap ∧ zs.length = cap ∧ (∀ i, i < zs.length → W.cell? (x.add i) = some (.int .u8 (zs.getD i 0))) ∧ ∀ n ∈ zs, (Lit.int .u8 n).wf = true) :
    ∃ f xs, isB xs ∧ RV (cx0 W) (.sl f (bs xs) none) (.slice a len cap) := by
  rcases h with ⟨rfl, rfl, rfl, rfl⟩ | ⟨x, rfl, h1, h2, h3, h4⟩
  · exact ⟨true, [], isB_nil, .slE true none none 0 (by simp) (by simp) (by simp)⟩
  · by_cases h0 : len = 0
    · subst h0
      exact ⟨false, [], isB_nil, .slE false (some x) none cap (by simp) (by simp) (by simp)⟩
    · have hb : isB (zs.take len) := fun n hn => by
        have := h4 n (List.mem_of_mem_take hn)
        simp [Lit.wf, IntKind.min, IntKind.max, IntKind.signed, IntKind.bits] at this
        omega
      have hl : (zs.take len).length = len := by rw [List.length_take]; omega
      have hc0 := h3 0 (by omega)
      have hx0 : x.add 0 = x := by simp [Addr.add]
      rw [hx0] at hc0
      obtain ⟨b, off, spot⟩ := x
      have hs : spot = none ∧ b < W.heap.size := by
        unfold World.cell? at hc0
        split at hc0
        · rename_i e
          split at hc0
          · cases hc0
          · rename_i hsp
            refine ⟨by simpa using hsp, ?_⟩
            exact (Array.getElem?_eq_some_iff.1 e).1
        · cases hc0
      obtain ⟨rfl, hbs⟩ := hs
      refine ⟨false, zs.take len, hb, ?_⟩
      have := RV.slC (c := cx0 W) (bs (zs.take len)) ((zs.take len).map (Value.int .u8)) b off 1 none cap (by
          intro e
          have := congrArg List.length e
          rw [bs_length, hl] at this
          simp at this; omega) (bytes_RVs _ _) (by
          intro v hv
          obtain ⟨n, _, rfl⟩ := List.mem_map.1 hv
          rfl) (fun y hy => by
          obtain ⟨n, _, rfl⟩ := List.mem_map.1 hy
          rfl) hbs (by
          intro i cell hi
          rw [bytes_cells] at hi
          rw [List.getElem?_map] at hi
          cases e : (zs.take len)[i]? with
          | none => rw [e] at hi; cases hi
          | some n =>
            rw [e] at hi
            simp only [Option.map_some, Option.some.injEq] at hi
            subst hi
            have hil : i < len := by
              have := (List.getElem?_eq_some_iff.1 e).1
              omega
            have := h3 i (by omega)
            rw [List.getElem?_take, if_pos hil] at e
            rw [List.getD_eq_getElem?_getD, e] at this
            rw [show (⟨b, off + i, none⟩ : Addr) = (⟨b, off, none⟩ : Addr).add i by
              unfold Addr.add
              split
              · rename_i e0; rw [e0]; rfl
              · rfl]
            exact this) (by rw [bs_length, hl]; exact h1) (by intro k hk; cases hk)
      rwa [bs_length, hl] at this
end Ab
