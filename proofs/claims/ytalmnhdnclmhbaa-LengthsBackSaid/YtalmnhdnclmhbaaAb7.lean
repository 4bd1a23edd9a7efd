/- Slices, indexes, fields. Own work, no conditions. -/
import Derived.Test.YtalmnhdnclmhbaaAb6
import Derived.Laws.BytesArg
set_option linter.unusedVariables false
set_option linter.unusedSimpArgs false
namespace Ab
open Go

theorem rvs_flatMap {c : Cx} : ∀ {xs : List AV} {vs : List Value}, RVs c xs vs → RVs c (xs.flatMap AV.cells) (vs.flatMap (·.cells.toList))
  | _, _, .nil => .nil
  | _, _, .cons x v xs vs h1 h2 => by
    simp only [List.flatMap_cons]
    exact h1.cells.append (rvs_flatMap h2)
theorem flat_length {vs : List Value} {sz : Nat} (h : ∀ v ∈ vs, v.cells.size = sz) : (vs.flatMap (·.cells.toList)).length = vs.length * sz := by
  induction vs with
  | nil => simp
  | cons v r ih =>
    have := ih fun u hu => h u (by simp [hu])
    simp only [List.flatMap_cons, List.length_append, this, List.length_cons]
    have h1 := h v (by simp)
    rw [Array.length_toList, h1, Nat.add_mul]; omega

/-- A source of elements, read. -/
theorem conts_sound (P : Program) {base c} (H : HR base c) {x v ys n} (h : conts c.h x = some (ys, n)) (hv : RV c x v) :
    ∃ vs, RVs c ys vs ∧ (Builtin.lenOf v).run P c.w = .ok n c.w ∧ ∀ sz m, ys.length = n * sz → m ≤ n → ∀ w' : World, w'.heap = c.w.heap → (Builtin.firstCells sz m v).run P w' = .ok (vs.take (m * sz)).toArray w' := by
  have hcell : ∀ w' : World, w'.heap = c.w.heap → ∀ a, w'.cell? a = c.w.cell? a := fun w' e a => by simp [World.cell?, e]
  unfold conts at h
  split at h
  · cases h
    cases hv with
    | slE f a cap cap' h1 h2 h3 =>
      refine ⟨[], .nil, by simp [Builtin.lenOf], fun sz m _ hm w' hw => ?_⟩
      obtain rfl : m = 0 := by simpa using hm
      cases a with
      | none => simp [Builtin.firstCells]
      | some a => simp [Builtin.firstCells, loadCells, loadCellsFrom]
    | slC xs vs b off esz cap cap' hne h1 h2 h3 h4 h5 h6 h7 =>
      refine ⟨vs.flatMap (·.cells.toList), rvs_flatMap h1, by simp [Builtin.lenOf], fun sz m hl hm w' hw => ?_⟩
      have hlen := (rvs_flatMap h1).length
      have hn := h1.length
      simp only [Builtin.firstCells]
      refine run_loadCells_at P b off _ w' _ ?_ fun j cell hj => (hcell w' hw _).trans ?_
      · rw [List.length_take, ← hlen, hl]
        exact (Nat.min_eq_left (Nat.mul_le_mul_right _ hm)).symm
      · rw [List.getElem?_take] at hj
        split at hj
        · exact h5 j cell hj
        · cases hj
  · split at h
    case h_2 => cases h
    rename_i key off len _ _ o ho
    split at h
    case isFalse => cases h
    rename_i hc
    cases h
    cases hv with
    | ref _ _ _ _ cap' h1 h2 h3 h4 =>
      obtain ⟨vs, a1, a2, a3, a4⟩ := H.cells ho hc.1 off (n * o.esz) hc.2
      refine ⟨vs, a1, by simp [Builtin.lenOf], fun sz m hl hm w' hw => ?_⟩
      have hlen := a1.length
      simp only [Builtin.firstCells]
      refine run_loadCells_at P _ off _ w' _ ?_ fun j cell hj => (hcell w' hw _).trans ?_
      · rw [List.length_take, ← hlen, hl]
        exact (Nat.min_eq_left (Nat.mul_le_mul_right _ hm)).symm
      · rw [List.getElem?_take] at hj
        split at hj
        · exact a4 j cell hj
        · cases hj
  · cases h
    cases hv with
    | str _ s hs =>
      subst hs
      have hsl : (s.data.toList.map fun b => (b.toNat : Int)).length = s.size := by simp
      rw [hsl]
      refine ⟨s.data.toList.map fun b => .int .u8 b.toNat, ?_, by simp [Builtin.lenOf], fun sz m hl hm w' hw => ?_⟩
      · refine .of_get (by simp) fun i x v hx hv => ?_
        simp only [List.getElem?_map, Option.map_map] at hx hv
        cases e : s.data.toList[i]? with
        | none => rw [e] at hx; cases hx
        | some b => rw [e] at hx hv; cases hx; cases hv; exact .int _ _
      · have hsz : m * sz = m := by
          rcases Nat.eq_zero_or_pos m with h0 | h0
          · subst h0; simp
          · have : sz = 1 := by
              simp at hl
              have h1 : 0 < s.data.size := by
                have : (List.map (fun b => (b.toNat : Int)) s.data.toList).length = s.data.size := by simp
                omega
              exact (Nat.eq_of_mul_eq_mul_left h1 ((Nat.mul_one _).trans hl)).symm
            simp [this]
        rw [hsz]
        simp only [Builtin.firstCells, Sem.run_pure]
        congr 1
        apply Array.ext'
        simp [ByteArray.data_extract, List.map_take, List.take_take]
  · cases h

theorem convA_go {c : Cx} : ∀ {ys : List AV} {l : List Int} {vs : List Value}, convA.go ys = some l → RVs c ys vs → vs = l.map (Value.int .u8) ∧ ∀ n ∈ l, 0 ≤ n ∧ n < 256
  | [], l, vs, h, hv => by
    simp [convA.go] at h; subst h
    cases hv; simp
  | y :: ys, l, vs, h, hv => by
    unfold convA.go at h
    split at h
    · rename_i h0; cases h0
    · rename_i n r heq
      cases heq
      split at h
      · rename_i hn
        cases e : convA.go ys with
        | none => rw [e] at h; cases h
        | some l' =>
          rw [e] at h; cases h
          cases hv with
          | cons _ v _ vs h1 h2 =>
            cases h1
            obtain ⟨a1, a2⟩ := convA_go e h2
            exact ⟨by simp [a1], fun m hm => by
              rcases List.mem_cons.1 hm with rfl | hm
              · exact hn
              · exact a2 m hm⟩
      · cases h
    · cases h

theorem strOfNums_toNat (l : List Int) (h : ∀ n ∈ l, 0 ≤ n ∧ n < 256) : ((Go.strOfNums l).data.toList.map fun b => (b.toNat : Int)) = l := by
  unfold Go.strOfNums
  simp only [List.map_map]
  conv => rhs; rw [← List.map_id l]
  refine List.map_congr_left fun n hn => ?_
  have := h n hn
  simp only [Function.comp, id, UInt8.toNat_ofNat']
  omega

theorem convA_sound {P E} (O : EnvOK P E) {base c} (H : HR base c) {src dst x r v} (h : convA E src dst x c.h = some r) (hv : RV c x v) : Comp P c (convert src dst v) r := by
  unfold convA at h
  split at h
  · rename_i hs hd
    cases h; cases hv
    obtain ⟨d, hd1, _⟩ := under_of O hs
    refine ⟨_, ?_, .int _ _⟩
    simp only [convert, Sem.run_bind, run_underlying hd1, run_underlying (under_int O hd), Result.andThen_ok]
    cases d <;> simp [Conv.intToInt]
  · rename_i e _ _ _ _ _ _ _ _ _ hs hd
    have hs' := under_slice O hs
    have hd' := under_str O hd
    split at h
    case h_2 => cases h
    rename_i he
    have he' := under_int O he
    split at h
    · cases h
    · rename_i hns
      split at h
      case h_2 => cases h
      rename_i cs n hcs
      split at h
      case isFalse => cases h
      rename_i hcn
      cases hg : convA.go cs with
      | none => rw [hg] at h; cases h
      | some l =>
        rw [hg] at h; cases h
        obtain ⟨vs, a1, a2, a3⟩ := conts_sound P H hcs hv
        have hlen := a1.length
        obtain ⟨g1, g2⟩ := convA_go hg a1
        have hll : l.length = n := by rw [← hcn, hlen, g1]; simp
        have hf := a3 1 n (by omega) (Nat.le_refl n) c.w rfl
        cases v with
        | slice a m cap =>
          have hmn : m = n := by simpa [Builtin.lenOf] using a2
          subst hmn
          cases a with
          | none =>
            have h0 : m = 0 := by
              cases hv with
              | slE => rfl
            subst h0
            have : l = [] := List.eq_nil_of_length_eq_zero hll
            subst this
            exact ⟨_, run_convert_bytes_nil c.w src _ hs' he' _ _ dst hd', .str _ _ rfl⟩
          | some a =>
            refine ⟨.string (Go.strOfNums l), ?_, .str _ _ (strOfNums_toNat l g2)⟩
            simp only [Builtin.firstCells, Nat.mul_one] at hf
            rw [run_convert_bytes_string c.w src dst _ _ m cap hs' he' hd', run_bytesToString c.w _ m cap l ?_]
            · simp only [foldl_push_bytes, Go.strOfNums]
              simp [ByteArray.empty, ByteArray.emptyWithCapacity]
              rfl
            · rw [hf, List.take_of_length_le (by omega), g1]
        | string s =>
          exfalso
          cases hv with
          | str _ _ e1 => exact hns _ rfl
        | _ => cases hv <;> simp [Builtin.lenOf] at a2
  · rename_i hs hd
    cases h
    cases hv with
    | str _ s e1 =>
      obtain ⟨d, hd1, _⟩ := under_of O hs
      refine ⟨.string s, ?_, .str _ _ e1⟩
      simp only [convert, Sem.run_bind, run_underlying hd1, run_underlying (under_str O hd), Result.andThen_ok]
      cases d <;> simp
  · cases h

end Ab
