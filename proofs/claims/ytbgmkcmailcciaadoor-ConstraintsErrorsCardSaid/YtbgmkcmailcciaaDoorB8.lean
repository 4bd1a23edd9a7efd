/- Slices, indexes, fields, composites. Own work, no conditions. -/
import Derived.Test.YtbgmkcmailcciaaDoorB7
set_option linter.unusedVariables false
set_option linter.unusedSimpArgs false
namespace Ab
open Go

inductive ORV (c : Cx) : Option AV → Option Value → Prop
  | none : ORV c none none
  | some (x v) : RV c x v → ORV c (some x) (some v)

theorem bound_run (P : Program) {c : Cx} {x : AV} {v : Value} (y : Nat) (code : BoundsCode) (hv : RV c x v) {n : Nat} (h : numA (some x) = some (some n)) (hn : n ≤ y) (w : World) : (Instr.sliceBound v y code).run P w = .ok n w := by
  cases hv <;> simp only [numA, reduceCtorEq] at h
  split at h
  · rename_i k m hm
    simp only [Option.some.injEq] at h
    subst h
    have : 0 ≤ m ∧ m ≤ (y : Int) := ⟨hm, by omega⟩
    simp [Instr.sliceBound, asIntOf, this]
  · cases h

theorem bounds_run (P : Program) {c : Cx} {lo hi mx : Option AV} {vlo vhi vmx : Option Value} (isS : Bool) {len cap' : Nat} {cap : Option Nat} (hcap : ∀ q, cap = some q → cap' = q) (hlc : len ≤ cap')
    (h1 : ORV c lo vlo) (h2 : ORV c hi vhi) (h3 : ORV c mx vmx) {l h o} (hb : boundsA len cap lo hi mx = some (l, h, o)) (w : World) :
    ∃ m', (Instr.sliceBounds isS len cap' vlo vhi vmx).run P w = .ok (l, h, m') w ∧ h ≤ m' ∧ l ≤ h ∧ (∀ q, o = some q → m' - l = q) ∧ m' ≤ cap' ∧ (o = none → cap = none ∧ m' = cap') := by
  unfold boundsA at hb
  cases e1 : numA lo with
  | none => simp [e1] at hb
  | some rl =>
  cases e2 : numA hi with
  | none => simp [e1, e2] at hb
  | some rh =>
  cases e3 : numA mx with
  | none => simp [e1, e2, e3] at hb
  | some rm =>
  simp only [e1, e2, e3, boundsB] at hb
  have fits : ∀ n : Nat, fitsA len cap n = true → n ≤ cap' := by
    intro n hn
    unfold fitsA at hn
    cases cap with
    | none => simp at hn; omega
    | some q => have := hcap q rfl; simp at hn; omega
  cases rm with
  | some m =>
    simp only at hb
    split at hb
    case isFalse => cases hb
    rename_i hc
    obtain ⟨hs, hfm, hhm, hlh⟩ := hc
    cases hb
    cases h3 with
    | none => simp [numA] at e3
    | some xm vm hxm =>
    cases h2 with
    | none => simp [numA] at e2; subst e2; simp at hs
    | some xh vh hxh =>
    obtain ⟨nh, rfl⟩ := Option.isSome_iff_exists.1 hs
    refine ⟨m, ?_, by simpa using hhm, hlh, by simp, fits m hfm, by simp⟩
    unfold Instr.sliceBounds
    simp only [Sem.run_bind, bound_run P cap' _ hxm e3 (fits m hfm) w, Result.andThen_ok, bound_run P m _ hxh e2 (by simpa using hhm) w]
    cases h1 with
    | none => simp [numA] at e1; subst e1; simp
    | some xl vl hxl =>
      cases rl with
      | none => cases xl <;> simp [numA] at e1
      | some nl => simp [bound_run P nh _ hxl e1 (by simpa using hlh) w]
  | none =>
    simp only at hb
    split at hb
    case isFalse => cases hb
    rename_i hc
    cases hb
    cases h3 with
    | some xm vm hxm => cases xm <;> simp [numA] at e3
    | none =>
    refine ⟨cap', ?_, fits _ hc.1, hc.2, ?_, Nat.le_refl _, fun h => ⟨by cases cap <;> simp_all, rfl⟩⟩
    · unfold Instr.sliceBounds
      simp only [Sem.run_bind, Sem.run_pure, Result.andThen_ok]
      cases h2 with
      | none =>
        simp [numA] at e2; subst e2
        simp only [Option.getD_none] at hc
        simp only [Sem.run_pure, Result.andThen_ok, Option.getD_none]
        cases h1 with
        | none => simp [numA] at e1; subst e1; simp
        | some xl vl hxl =>
          cases rl with
          | none => cases xl <;> simp [numA] at e1
          | some nl => simp [bound_run P len _ hxl e1 (by simpa using hc.2) w]
      | some xh vh hxh =>
        cases rh with
        | none => cases xh <;> simp [numA] at e2
        | some nh =>
          simp only [Option.getD_some] at hc
          simp only [bound_run P cap' _ hxh e2 (fits nh hc.1) w, Result.andThen_ok, Option.getD_some]
          cases h1 with
          | none => simp [numA] at e1; subst e1; simp [bound_run P cap' _ hxh e2 (fits nh hc.1)]
          | some xl vl hxl =>
            cases rl with
            | none => cases xl <;> simp [numA] at e1
            | some nl => simp [bound_run P cap' _ hxh e2 (fits nh hc.1), bound_run P nh _ hxl e1 (by simpa using hc.2) w]
    · intro q hq
      cases cap with
      | none => simp at hq
      | some k => simp at hq; have := hcap k rfl; omega

theorem rvs_pure_take {xs : List AV} (h : ∀ x ∈ xs, x.pure = true) (a b : Nat) : ∀ x ∈ (xs.take b).drop a, x.pure = true :=
  fun x hx => h x (List.mem_of_mem_take (List.mem_of_mem_drop hx))

theorem flat_drop {vs : List Value} {sz : Nat} (h : ∀ v ∈ vs, v.cells.size = sz) (l : Nat) : (vs.drop l).flatMap (·.cells.toList) = (vs.flatMap (·.cells.toList)).drop (l * sz) := by
  induction l generalizing vs with
  | zero => simp
  | succ l ih =>
    cases vs with
    | nil => simp
    | cons v r =>
      have hv := h v (by simp)
      rw [List.drop_succ_cons, ih fun u hu => h u (by simp [hu]), List.flatMap_cons, List.drop_append]
      have e : (l + 1) * sz = sz + l * sz := by rw [Nat.add_mul, Nat.one_mul, Nat.add_comm]
      rw [e, Array.length_toList, hv, List.drop_of_length_le (l := v.cells.toList) (by rw [Array.length_toList, hv]; omega)]
      simp
theorem flat_take {vs : List Value} {sz : Nat} (h : ∀ v ∈ vs, v.cells.size = sz) (l : Nat) : (vs.take l).flatMap (·.cells.toList) = (vs.flatMap (·.cells.toList)).take (l * sz) := by
  induction l generalizing vs with
  | zero => simp
  | succ l ih =>
    cases vs with
    | nil => simp
    | cons v r =>
      have hv := h v (by simp)
      have e : (l + 1) * sz = sz + l * sz := by rw [Nat.add_mul, Nat.one_mul, Nat.add_comm]
      rw [List.take_succ_cons, List.flatMap_cons, ih fun u hu => h u (by simp [hu]), List.flatMap_cons, e, List.take_append, Array.length_toList, hv,
        List.take_of_length_le (l := v.cells.toList) (by rw [Array.length_toList, hv]; omega)]
      simp

theorem addr_add (b o n : Nat) : (⟨b, o, none⟩ : Addr).add n = ⟨b, o + n, none⟩ := by unfold Addr.add; split <;> simp_all

theorem sliceA_sound {P E} (O : EnvOK P E) {base c} (H : HR base c) {t x lo hi mx v vlo vhi vmx r} (h : sliceA E t x lo hi mx c.h = some r) (hv : RV c x v) (h1 : ORV c lo vlo) (h2 : ORV c hi vhi) (h3 : ORV c mx vmx) :
    Comp P c (Instr.sliceAt t v vlo vhi vmx) r := by
  unfold sliceA at h
  split at h
  · rename_i e _ _ _ _ f xs cap ht
    have hu := under_slice O ht
    split at h
    case h_2 => cases h
    rename_i l hh o τ hb he
    split at h
    case isFalse => cases h
    rename_i hc
    cases h
    have hlc : ∃ a cap', v = .slice a xs.length cap' ∧ xs.length ≤ cap' ∧ (∀ q, cap = some q → cap' = q) ∧ (a = none ↔ f = true) ∧ (f = true → cap' = 0) := by
      cases hv with
      | slE f a cap cap' g1 g2 g3 => exact ⟨a, cap', rfl, Nat.zero_le _, g3, g1, g2⟩
      | slC xs vs b off esz cap cap' g0 g1 g2 g3 g4 g5 g6 g7 => exact ⟨_, cap', rfl, g6, g7, by simp, by simp⟩
    obtain ⟨a, cap', rfl, hlc, hcap, haf, hf0⟩ := hlc
    obtain ⟨m', b1, b2, b3, b4, b5, b6⟩ := bounds_run P true hcap hlc h1 h2 h3 hb c.w
    refine ⟨.slice (if m' = l then a else a.map (·.add (l * τ.size))) (hh - l) (m' - l), ?_, ?_⟩
    · simp only [Instr.sliceAt, Sem.run_bind, run_underlying hu, Result.andThen_ok]
      simp only [Instr.slice, Sem.run_bind, run_underlying hu, Result.andThen_ok, b1, run_size O he, Sem.run_pure]
    · have hlen : ((xs.take hh).drop l).length = hh - l := by simp; omega
      have hnone : (if m' = l then a else a.map (·.add (l * τ.size))) = none ↔ f = true := by split <;> simp [haf]
      by_cases e0 : hh = l
      · have : (xs.take hh).drop l = [] := List.eq_nil_of_length_eq_zero (by omega)
        rw [this, e0, Nat.sub_self]
        exact .slE f _ o _ hnone (fun hf => by have := hf0 hf; omega) b4
      · cases hv with
        | slE _ _ _ _ => exfalso; simp at hc; omega
        | slC _ vs b off esz _ _ g0 g1 g2 g3 g4 g5 g6 g7 =>
          have hne : (xs.take hh).drop l ≠ [] := fun e => by rw [e] at hlen; simp at hlen; omega
          rw [if_neg (by omega), Option.map_some, addr_add, ← hlen]
          have hvl := g1.length
          have hsz : l * τ.size = l * esz := by
            rcases hc.2 with h0 | h0 | h0
            · simp [h0]
            · exact absurd h0 e0
            · cases ex : xs[l]? with
              | none => rw [ex] at h0; cases h0
              | some x =>
                rw [ex] at h0
                obtain ⟨u, q1, q2⟩ := g1.get ex
                have := q2.cells_size
                rw [g2 u (List.mem_of_getElem? q1)] at this
                simp at h0
                rw [this, h0]
          rw [hsz]
          have hvs2 : ∀ v ∈ vs.take hh, v.cells.size = esz := fun v hv => g2 v (List.mem_of_mem_take hv)
          refine .slC _ ((vs.take hh).drop l) b (off + l * esz) esz o _ hne ((g1.take hh).drop l) (fun v hv => hvs2 v (List.mem_of_mem_drop hv)) (rvs_pure_take g3 l hh) g4 (fun i cell hi => ?_) (by rw [hlen]; omega) b4
          rw [flat_drop hvs2, flat_take g2, List.getElem?_drop, List.getElem?_take] at hi
          split at hi
          · rw [Nat.add_assoc]; exact g5 _ _ hi
          · cases hi
  · rename_i e _ _ _ _ key off len cap ht
    have hu := under_slice O ht
    split at h
    case h_2 => cases h
    rename_i l hh o ob τ hb hk he
    split at h
    case isFalse => cases h
    rename_i hc
    cases hv with
    | ref _ _ _ _ cap' g1 g2 g3 g4 =>
    obtain ⟨m', b1, b2, b3, b4, b5, b6⟩ := bounds_run P true g3 g2 h1 h2 h3 hb c.w
    refine ⟨.slice (if m' = l then some ⟨c.mu key, off, none⟩ else some ⟨c.mu key, off + l * τ.size, none⟩) (hh - l) (m' - l), ?_, ?_⟩
    · simp only [Instr.sliceAt, Sem.run_bind, run_underlying hu, Result.andThen_ok]
      simp only [Instr.slice, Sem.run_bind, run_underlying hu, Result.andThen_ok, b1, run_size O he, Sem.run_pure, Option.map_some, addr_add]
    · split at h
      · rename_i h0
        cases h
        rw [h0.1, Nat.sub_self]
        exact .slE false _ o _ (by split <;> simp) (by simp) b4
      · rename_i h0
        split at h
        · cases h
        · rename_i h00
          cases h
          have : m' ≠ l := by
            intro e
            cases o with
            | some q => have := b4 q rfl; exact h00 (by rw [← this, e, Nat.sub_self])
            | none => exact h0 ⟨by omega, .inl rfl⟩
          rw [if_neg this, hc.1]
          refine .ref key _ _ o _ g1 (by omega) b4 fun ho h0 => ?_
          obtain ⟨hcap, hm⟩ := b6 ho
          have hl0 : l * ob.esz = 0 := by omega
          have hl : l = 0 := by rcases Nat.mul_eq_zero.1 hl0 with h | h; exact h; omega
          rw [hm, hl, Nat.sub_zero]
          exact g4 hcap (by omega)
  · rename_i n e _ _ _ _ key off ht
    have hu := under_arr O ht
    split at h
    case h_2 => cases h
    rename_i l hh o τ hb he
    split at h
    case h_2 => cases h
    rename_i ob hk
    split at h
    case isFalse => cases h
    rename_i hc
    cases hv with
    | ptr _ _ g1 =>
    obtain ⟨m', b1, b2, b3, b4, b5, b6⟩ := bounds_run P false (cap := some n) (cap' := n) (by simp) (Nat.le_refl n) h1 h2 h3 hb c.w
    refine ⟨.slice (some (if m' = l then ⟨c.mu key, off, none⟩ else ⟨c.mu key, off + l * τ.size, none⟩)) (hh - l) (m' - l), ?_, ?_⟩
    · simp only [Instr.sliceAt, Sem.run_bind, run_underlying hu, Result.andThen_ok, Instr.sureAddr, b1, run_size O he, Sem.run_pure, addr_add]
    · have ho : o = some (m' - l) := by
        cases o with
        | some q => rw [b4 q rfl]
        | none => exact absurd (b6 rfl).1 (by simp)
      split at h
      · rename_i h0
        cases h
        have hz : m' - l = 0 := by rw [ho] at h0; exact Option.some.inj h0
        have : hh - l = 0 := by omega
        rw [this]
        exact .slE false _ o _ (by simp) (by simp) b4
      · rename_i h0
        cases h
        have : m' ≠ l := fun e => h0 (by rw [ho, e, Nat.sub_self])
        rw [if_neg this]
        exact .ref key _ _ o _ g1 (by omega) b4 (by rw [ho]; simp)
  · rename_i n e _ _ _ _ cs ht
    have hu := under_arr O ht
    split at h
    case h_2 => cases h
    rename_i l hh o τ hb he
    split at h
    case isFalse => cases h
    rename_i hc
    cases h
    cases hv with
    | pel _ vs b off g1 g2 g3 g4 g5 =>
    obtain ⟨m', b1, b2, b3, b4, b5, b6⟩ := bounds_run P false (cap := some n) (cap' := n) (by simp) (Nat.le_refl n) h1 h2 h3 hb c.w
    refine ⟨.slice (some (if m' = l then ⟨b, off, none⟩ else ⟨b, off + l * τ.size, none⟩)) (hh - l) (m' - l), ?_, ?_⟩
    · simp only [Instr.sliceAt, Sem.run_bind, run_underlying hu, Result.andThen_ok, Instr.sureAddr, b1, run_size O he, Sem.run_pure, addr_add]
    · have hlen : ((cs.take hh).drop l).length = hh - l := by simp; omega
      by_cases e0 : hh = l
      · have : (cs.take hh).drop l = [] := List.eq_nil_of_length_eq_zero (by omega)
        rw [this, e0, Nat.sub_self]
        exact .slE false _ o _ (by simp) (by simp) b4
      · have hne : (cs.take hh).drop l ≠ [] := fun e => by rw [e] at hlen; simp at hlen; omega
        rw [if_neg (by omega), ← hlen, hc.1, Nat.mul_one]
        have hcell : ∀ v ∈ (vs.take hh).drop l, v.cells.toList = [v] := by
          intro v hv
          obtain ⟨i, hi⟩ := List.mem_iff_getElem?.1 (List.mem_of_mem_take (List.mem_of_mem_drop hv))
          have hlt := (List.getElem?_eq_some_iff.1 hi).1
          have hx : cs[i]? = some (cs[i]'(by rw [g1.length]; exact hlt)) := List.getElem?_eq_getElem _
          obtain ⟨v', q1, q2⟩ := g1.get hx
          rw [hi] at q1; cases q1
          exact cells_scal q2 (g2 _ (List.getElem_mem _))
        have hflat : ∀ l : List Value, (∀ v ∈ l, v.cells.toList = [v]) → l.flatMap (·.cells.toList) = l := by
          intro l
          induction l with
          | nil => simp
          | cons v r ih => intro hl; rw [List.flatMap_cons, hl v (by simp), ih fun u hu => hl u (by simp [hu])]; rfl
        refine .slC _ ((vs.take hh).drop l) b (off + l) 1 o _ hne ((g1.take hh).drop l) (fun v hv => by rw [← Array.length_toList, hcell v hv]; rfl) (rvs_pure_take g3 l hh) g4 (fun i cell hi => ?_) (by rw [hlen]; omega) b4
        rw [hflat _ hcell, List.getElem?_drop, List.getElem?_take] at hi
        split at hi
        · rw [Nat.add_assoc]; exact g5 _ _ hi
        · cases hi
  · rename_i _ _ _ _ l ht
    have hu := under_str O ht
    split at h
    case h_2 => cases h
    rename_i a b o hb
    cases h
    cases h3
    cases hv with
    | str _ s g1 =>
    subst g1
    have hsl : (s.data.toList.map fun b => (b.toNat : Int)).length = s.size := by simp
    rw [hsl] at hb
    obtain ⟨m', b1, b2, b3, b4, b5, b6⟩ := bounds_run P false (cap := some s.size) (cap' := s.size) (by simp) (Nat.le_refl _) h1 h2 .none hb c.w
    refine ⟨.string (s.extract a b), ?_, .str _ _ ?_⟩
    · simp only [Instr.sliceAt, Sem.run_bind, run_underlying hu, Result.andThen_ok]
      simp [Instr.slice, Sem.run_bind, run_underlying hu, Result.andThen_ok, b1, Sem.run_pure]
    · rw [ByteArray.data_extract]
      simp [List.map_drop, List.map_take]
      rw [List.drop_take]
  · cases h

end Ab
