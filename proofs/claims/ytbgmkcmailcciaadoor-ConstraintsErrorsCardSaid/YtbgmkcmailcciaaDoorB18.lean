/- Code of the evaluator is the model's. Own work, no conditions. -/
import Derived.Test.YtbgmkcmailcciaaDoorB17
set_option linter.unusedVariables false
set_option linter.unusedSimpArgs false
namespace Ab
open Go

/-! ### What a frame no longer needs is forgotten -/
theorem keepT_get {t : Fr} : ∀ {ks : List Nat} {i v}, lookT (keepT t ks) i = some v → lookT t i = some v
  | [], i, v, h => by simp [keepT, lookT] at h
  | k :: r, i, v, h => by
    unfold keepT at h
    split at h
    · rename_i u e
      rw [lookT_cons] at h
      split at h
      · rename_i e2; subst e2; cases h; exact e
      · exact keepT_get h
    · exact keepT_get h
theorem keysT_look : ∀ {t : Fr} {i v}, lookT t i = some v → ∀ k ∈ v.keys, k ∈ keysT t
  | [], i, v, h => by simp [lookT] at h
  | (j, u) :: r, i, v, h => by
    intro k hk
    rw [lookT_cons] at h
    simp only [keysT, List.mem_append]
    split at h
    · cases h; exact .inl hk
    · exact .inr (keysT_look h k hk)
theorem reach_sub (h : Heap) : ∀ n ks k, k ∈ ks → k ∈ reach h n ks
  | 0, ks, k, hk => hk
  | n + 1, ks, k, hk => reach_sub h n _ k (by simp [hk])
theorem inKs_of {ks : List Key} {k : Key} (h : k ∈ ks) : inKs ks k = true := by
  unfold inKs; rw [List.any_eq_true]; exact ⟨k, h, by simp⟩
theorem lookK_filter (p : Key → Bool) : ∀ (h : Heap) (k : Key), p k = true → lookK (h.filter fun q => p q.1) k = lookK h k
  | [], k, _ => rfl
  | (q, o) :: r, k, hk => by
    simp only [List.filter_cons]
    by_cases e : q = k
    · subst e; simp [hk, lookK]
    · split
      · simp only [lookK, e, if_false]; exact lookK_filter p r k hk
      · simp only [lookK, e, if_false]; exact lookK_filter p r k hk
theorem lookK_filter_some (p : Key → Bool) : ∀ (h : Heap) (k : Key) o, lookK (h.filter fun q => p q.1) k = some o → p k = true
  | [], k, o, h => by simp [lookK] at h
  | (q, o') :: r, k, o, h => by
    simp only [List.filter_cons] at h
    split at h
    · rename_i hq
      simp only [lookK] at h
      split at h
      · rename_i e; subst e; exact hq
      · exact lookK_filter_some p r k o h
    · exact lookK_filter_some p r k o h
theorem lookK_mem : ∀ {h : Heap} {k o}, lookK h k = some o → (k, o) ∈ h
  | (q, o') :: r, k, o, h => by
    simp only [lookK] at h
    split at h
    · rename_i e; subst e; cases h; simp
    · simp [lookK_mem h]

/-- Another heap of fewer things. -/
theorem gc_sound {base c} (H : HR base c) {L : Nat} (p : Key → Bool) (hp : ∀ k, k.1 < L → p k = true) (hcl : ∀ k o, lookK c.h k = some o → p k = true → ∀ q ∈ AV.keysL o.cells, p q = true) :
    ∃ c', c'.w = c.w ∧ c'.h = c.h.filter (fun q => p q.1) ∧ HR base c' ∧ ExtL L base c c' ∧ ∀ x v, RV c x v → (∀ k ∈ x.keys, p k = true) → RV c' x v := by
  let c' : Cx := { c with h := c.h.filter fun q => p q.1 }
  have look : ∀ k, p k = true → lookK c'.h k = lookK c.h k := fun k hk => lookK_filter p c.h k hk
  have back : ∀ k o, lookK c'.h k = some o → lookK c.h k = some o ∧ p k = true := fun k o h => by
    have hk := lookK_filter_some p c.h k o h
    exact ⟨by rw [← look k hk]; exact h, hk⟩
  have rv : ∀ x v, RV c x v → (∀ k ∈ x.keys, p k = true) → RV c' x v := fun x v hx hk =>
    hx.mono (c := c) (c' := c') (fun b hb => ⟨hb, rfl⟩) fun k hkx ⟨o, ho⟩ => ⟨⟨o, by rw [look k (hk k hkx)]; exact ho⟩, rfl⟩
  refine ⟨c', rfl, rfl, ⟨?_, ?_, ?_, ?_, H.rd⟩, ?_, rv⟩
  · intro k o hk hl
    obtain ⟨hk', hpk⟩ := back k o hk
    obtain ⟨arr, e, fr, h1, h2, h3, h4, h4b, h5⟩ := H.obj k o hk' hl
    refine ⟨arr, e, fr, h1, h2, h3, h4, h4b, fun i x hx => ?_⟩
    obtain ⟨v, q1, q2, q3⟩ := h5 i x hx
    refine ⟨v, q1, rv x v q2 fun q hq => hcl k o hk' hpk q ?_, q3⟩
    have : ∀ (l : List AV) (i : Nat), l[i]? = some x → ∀ q ∈ x.keys, q ∈ AV.keysL l := by
      intro l
      induction l with
      | nil => intro i h; simp at h
      | cons y l ih =>
        intro i h q hq
        simp only [AV.keysL, List.mem_append]
        cases i with
        | zero => simp at h; subst h; exact .inl hq
        | succ i => exact .inr (ih i (by simpa using h) q hq)
    exact this _ i hx q hq
  · exact fun k o hk => H.mt k o (back k o hk).1
  · exact fun k o hk => H.sld k o (back k o hk).1
  · exact fun k o k' o' hk hk' => H.inj k o k' o' (back k o hk).1 (back k' o' hk').1
  · refine ⟨rfl, rfl, rfl, Nat.le_refl _, fun _ _ _ => rfl, fun _ h => h, fun k hk ⟨o, ho⟩ => ⟨⟨o, by rw [look k (hp k hk)]; exact ho⟩, rfl⟩, fun b h => .inl h, ?_⟩
    rintro b ⟨k, o, hk, hl, hm, rfl⟩
    exact .inl ⟨k, o, (back k o hk).1, hl, hm, rfl⟩

theorem clean_sound {E base c n L} {s : St} {a : Act} (H : HR base c) (G : GOK E c) (hh : c.h = s.h) (F : FR c n s.t a.tmps) (ks : Option (List Nat)) :
    ∃ c', c'.w = c.w ∧ c'.h = (cleanS L ks s).h ∧ HR base c' ∧ GOK E c' ∧ ExtL L base c c' ∧ FR c' n (cleanS L ks s).t a.tmps := by
  unfold cleanS
  cases ks with
  | none => exact ⟨c, rfl, hh, H, G, .refl _ _ _, F⟩
  | some ks =>
    simp only
    have F0 : FR c n (keepT s.t ks) a.tmps := ⟨F.1, fun i v hi => F.2 i v (keepT_get hi)⟩
    have same : ∀ h' : Heap, c.h = h' → ∃ c', c'.w = c.w ∧ c'.h = h' ∧ HR base c' ∧ GOK E c' ∧ ExtL L base c c' ∧ FR c' n (keepT s.t ks) a.tmps := fun h' e => ⟨c, rfl, e, H, G, .refl _ _ _, F0⟩
    rw [← hh]
    unfold gcH
    split
    · rename_i e; exact same _ e
    · rename_i q r e
      simp only
      split
      · rename_i hall
        rw [← e] at hall ⊢
        obtain ⟨c', h1, h2, h3, h4, h5⟩ := gc_sound H (L := L) (keepK L (reach c.h 2 (keysT (keepT s.t ks)))) (fun k hk => by simp [keepK, hk]) (fun k o hk hp q hq => by
          have := List.all_eq_true.1 hall (k, o) (by rw [List.mem_filter]; exact ⟨lookK_mem hk, hp⟩)
          exact List.all_eq_true.1 this q hq)
        refine ⟨c', h1, h2, h3, G.extL h4 H, h4, F0.1, fun i v hi => h5 v _ (F0.2 i v hi) fun k hk => ?_⟩
        have := inKs_of (reach_sub c.h 2 _ k (keysT_look hi k hk))
        simp [keepK, this]
      · exact same _ e

end Ab
