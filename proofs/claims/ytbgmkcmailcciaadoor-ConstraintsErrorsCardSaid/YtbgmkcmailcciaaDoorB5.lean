/- What is handed away stands still. Own work, no conditions. -/
import Derived.Test.YtbgmkcmailcciaaDoorB4
set_option linter.unusedVariables false
set_option linter.unusedSimpArgs false
namespace Ab
open Go

def chunkV (agg : Bool) (sz : Nat) : Nat → List Value → List Value
  | 0, _ => []
  | n + 1, cs => (if agg then .agg ⟨cs.take sz⟩ else (cs.head?).getD (.pointer none)) :: chunkV agg sz n (cs.drop sz)

theorem chunk_length (agg sz) : ∀ n cs, (chunk agg sz n cs).length = n
  | 0, _ => rfl
  | n + 1, cs => by simp [chunk, chunk_length]
theorem chunk_pure (agg sz) : ∀ n (cs : List AV), (∀ x ∈ cs, x.pure = true) → ∀ x ∈ chunk agg sz n cs, x.pure = true
  | 0, _, _, x, hx => by simp [chunk] at hx
  | n + 1, cs, h, x, hx => by
    simp only [chunk, List.mem_cons] at hx
    rcases hx with rfl | hx
    · split
      · simp only [AV.pure]; exact (AV.pureL_all _).2 fun y hy => h y (List.mem_of_mem_take hy)
      · cases cs with
        | nil => rfl
        | cons y ys => simpa using h y (by simp)
    · exact chunk_pure agg sz n _ (fun y hy => h y (List.mem_of_mem_drop hy)) x hx
theorem cells_scal {c : Cx} {x v} (h : RV c x v) (hs : x.scal = true) : v.cells.toList = [v] := by
  cases h <;> first | rfl | simp [AV.scal] at hs
theorem chunk_rvs {c : Cx} (agg : Bool) (sz : Nat) (hsz : agg = false → sz = 1) : ∀ n (cs : List AV) (us : List Value), RVs c cs us → (∀ x ∈ cs, x.scal = true) → n * sz ≤ cs.length →
    RVs c (chunk agg sz n cs) (chunkV agg sz n us) ∧ (∀ v ∈ chunkV agg sz n us, v.cells.size = sz) ∧ (chunkV agg sz n us).flatMap (·.cells.toList) = us.take (n * sz)
  | 0, cs, us, h, hs, hl => ⟨.nil, by simp [chunkV], by simp [chunkV]⟩
  | n + 1, cs, us, h, hs, hl => by
    have hlen := h.length
    have e : (n + 1) * sz = sz + n * sz := by rw [Nat.add_mul, Nat.one_mul, Nat.add_comm]
    obtain ⟨a1, a2, a3⟩ := chunk_rvs agg sz hsz n (cs.drop sz) (us.drop sz) (h.drop sz) (fun x hx => hs x (List.mem_of_mem_drop hx)) (by simp; omega)
    cases agg with
    | true =>
      simp only [chunk, chunkV, if_true]
      refine ⟨.cons _ _ _ _ (.agg _ _ (h.take sz) fun x hx => hs x (List.mem_of_mem_take hx)) a1, fun v hv => ?_, ?_⟩
      · rcases List.mem_cons.1 hv with rfl | hv
        · simp [Value.cells]; omega
        · exact a2 v hv
      · rw [List.flatMap_cons, a3, e, List.take_add]; rfl
    | false =>
      obtain rfl := hsz rfl
      cases h with
      | nil => simp at hl
      | cons x v xs vs h1 h2 =>
        simp only [chunk, chunkV]
        have hc := cells_scal h1 (hs x (by simp))
        refine ⟨.cons _ _ _ _ (by simpa using h1) (by simpa using a1), fun u hu => ?_, ?_⟩
        · rcases List.mem_cons.1 hu with hu | hu
          · have hu' : u = v := by simpa using hu
            rw [hu', ← Array.length_toList, hc]; rfl
          · exact a2 u hu
        · rw [List.flatMap_cons, a3]
          simp [hc, List.take_succ_cons]

theorem sealL_pure (f : Heap → AV → Option (AV × Heap)) (hf : ∀ h v v' h', f h v = some (v', h') → v'.pure = true) :
    ∀ l h l' h', sealLW f h l = some (l', h') → AV.pureL l' = true
  | [], h, l', h', e => by simp [sealLW] at e; obtain ⟨rfl, _⟩ := e; rfl
  | x :: r, h, l', h', e => by
    simp only [sealLW] at e
    split at e
    case h_2 => cases e
    rename_i y h1 e1
    split at e
    case h_2 => cases e
    rename_i l2 h2 e2
    cases e
    simp [AV.pureL, hf _ _ _ _ e1, sealL_pure f hf _ _ _ _ e2]
theorem sealA_pure : ∀ n h v v' h', sealA n h v = some (v', h') → v'.pure = true
  | 0, h, v, v', h', e => by simp [sealA] at e
  | n + 1, h, v, v', h', e => by
    unfold sealA at e
    split at e
    · rename_i hp; cases e; exact hp
    · split at e
      · split at e
        · split at e
          · split at e
            · cases e; rfl
            · cases e
          · cases e
        · cases e
      · split at e
        · rename_i e1
          split at e
          · cases e; simpa [AV.pure] using sealL_pure _ (sealA_pure n) _ _ _ _ e1
          · cases e
        · cases e
      · split at e
        · rename_i e1; cases e; simpa [AV.pure] using sealL_pure _ (sealA_pure n) _ _ _ _ e1
        · cases e
      · cases e

def SealOK (base : Nat) (f : Heap → AV → Option (AV × Heap)) : Prop :=
  ∀ c v v' h' val, f c.h v = some (v', h') → HR base c → RV c v val → ∃ c', c'.h = h' ∧ c'.w = c.w ∧ c'.m = c.m ∧ HR base c' ∧ Ext base c c' ∧ RV c' v' val

theorem sealL_sound {base f} (hf : SealOK base f) : ∀ l c l' h' vals, sealLW f c.h l = some (l', h') → HR base c → RVs c l vals →
    ∃ c', c'.h = h' ∧ c'.w = c.w ∧ c'.m = c.m ∧ HR base c' ∧ Ext base c c' ∧ RVs c' l' vals
  | [], c, l', h', vals, e, H, hv => by
    simp [sealLW] at e; obtain ⟨rfl, rfl⟩ := e
    exact ⟨c, rfl, rfl, rfl, H, .refl _ _, hv⟩
  | x :: r, c, l', h', _, e, H, .cons _ v _ vs h1 h2 => by
    simp only [sealLW] at e
    split at e
    case h_2 => cases e
    rename_i y hh e1
    split at e
    case h_2 => cases e
    rename_i l2 hh2 e2
    cases e
    obtain ⟨c1, a1, a2, a3, a4, a5, a6⟩ := hf c x y hh v e1 H h1
    subst a1
    obtain ⟨c2, b1, b2, b3, b4, b5, b6⟩ := sealL_sound hf r c1 l2 _ vs e2 a4 (a5.rvs H h2)
    exact ⟨c2, b1, b2.trans a2, b3.trans a3, b4, a5.trans b5 H, .cons _ _ _ _ (b5.rv a4 a6) b6⟩

/-- One thing of the call's own is let stand. -/
theorem mark_sound {base c} (H : HR base c) {k o} (hk : lookK c.h k = some o) (hl : o.live = true) :
    ∃ c', c'.h = setK c.h k { o with mt := false } ∧ c'.w = c.w ∧ c'.m = c.m ∧ HR base c' ∧ Ext base c c' ∧ c'.Rd (c.mu k) := by
  obtain ⟨arr, e, fr, h1, h2, h3, h4, h4b, h5⟩ := H.obj k o hk hl
  let c' : Cx := { c with Rd := fun b => c.Rd b ∨ b = c.mu k, h := setK c.h k { o with mt := false } }
  have key : ∀ q oq, lookK c'.h q = some oq → (q = k ∧ oq = { o with mt := false }) ∨ (q ≠ k ∧ lookK c.h q = some oq) := by
    intro q oq hq
    change lookK (setK _ _ _) q = _ at hq
    rw [lookK_setK] at hq
    split at hq
    · rename_i e; cases hq; exact .inl ⟨e.symm, rfl⟩
    · rename_i e; exact .inr ⟨fun x => e x.symm, hq⟩
  have hX : Ext base c c' := by
    refine ⟨rfl, rfl, rfl, Nat.le_refl _, fun _ _ _ => rfl, fun _ h => .inl h, ?_, ?_, ?_⟩
    · rintro q ⟨oq, hq⟩
      refine ⟨?_, rfl⟩
      show ∃ _, lookK (setK _ _ _) q = _
      rw [lookK_setK]; split
      · exact ⟨_, rfl⟩
      · exact ⟨_, hq⟩
    · rintro b (h | rfl)
      · exact .inl h
      · cases hm : o.mt with
        | true => exact .inr (.inr ⟨k, o, hk, hl, hm, rfl⟩)
        | false => exact .inl (H.sld k o hk hl hm)
    · rintro b ⟨q, oq, hq, ql, qm, rfl⟩
      rcases key q oq hq with ⟨rfl, rfl⟩ | ⟨hne, hq'⟩
      · cases qm
      · exact .inl ⟨q, oq, hq', ql, qm, rfl⟩
  refine ⟨c', rfl, rfl, rfl, ⟨?_, ?_, ?_, ?_, ?_⟩, hX, .inr rfl⟩
  · intro q oq hq ql
    rcases key q oq hq with ⟨rfl, rfl⟩ | ⟨hne, hq'⟩
    · exact ⟨arr, e, fr, h1, h2, h3, h4, h4b, fun i x hx => by
        obtain ⟨v, q1, q2, q3⟩ := h5 i x hx
        exact ⟨v, q1, hX.rv H q2, q3⟩⟩
    · obtain ⟨ar, er, fr', g1, g2, g3, g4, g4b, g5⟩ := H.obj q oq hq' ql
      exact ⟨ar, er, fr', g1, g2, g3, g4, g4b, fun i x hx => by
        obtain ⟨v, q1, q2, q3⟩ := g5 i x hx
        exact ⟨v, q1, hX.rv H q2, q3⟩⟩
  · intro q oq hq ql qm
    rcases key q oq hq with ⟨rfl, rfl⟩ | ⟨hne, hq'⟩
    · cases qm
    · refine ⟨?_, (H.mt q oq hq' ql qm).2⟩
      rintro (h | h)
      · exact (H.mt q oq hq' ql qm).1 h
      · change c.mu q = c.mu k at h
        cases hm : o.mt with
        | true => exact hne (H.inj _ _ _ _ hq' hk ql hl qm hm h)
        | false => exact (H.mt q oq hq' ql qm).1 (h ▸ H.sld k o hk hl hm)
  · intro q oq hq ql qm
    rcases key q oq hq with ⟨rfl, rfl⟩ | ⟨hne, hq'⟩
    · exact .inr rfl
    · exact .inl (H.sld q oq hq' ql qm)
  · intro q oq q' oq' hq hq' ql ql' qm qm' e
    rcases key q oq hq with ⟨rfl, rfl⟩ | ⟨hne, hq1⟩
    · cases qm
    · rcases key q' oq' hq' with ⟨rfl, rfl⟩ | ⟨hne', hq2⟩
      · cases qm'
      · exact H.inj _ _ _ _ hq1 hq2 ql ql' qm qm' e
  · rintro b (h | rfl)
    · exact H.rd b h
    · exact (Array.getElem?_eq_some_iff.1 h1).1

theorem sealA_sound (base : Nat) : ∀ n, SealOK base (sealA n)
  | 0 => fun c v v' h' val e _ _ => by simp [sealA] at e
  | n + 1 => fun c v v' h' val e H hv => by
    have ih := sealA_sound base n
    unfold sealA at e
    split at e
    · cases e; exact ⟨c, rfl, rfl, rfl, H, .refl _ _, hv⟩
    · split at e
      · rename_i key off len cap _
        split at e
        case h_2 => cases e
        rename_i o ho
        split at e
        case isFalse => cases e
        rename_i hc
        obtain ⟨hl, hlen, hsz⟩ := hc
        split at e
        case h_2 => cases e
        rename_i cs hh e1
        cases e
        obtain ⟨c1, a1, a2, a3, a4, a5, a6⟩ := mark_sound H ho hl
        obtain ⟨us, b1, b2, b3, b4⟩ := H.cells ho hl off (len * o.esz) hlen
        rw [← a1] at e1
        obtain ⟨c2, d1, d2, d3, d4, d5, d6⟩ := sealL_sound ih _ c1 cs _ us e1 a4 (a5.rvs H b1)
        have hpure := sealL_pure _ (sealA_pure n) _ _ _ _ e1
        have hscal : ∀ x ∈ cs, x.scal = true := by
          intro x hx
          obtain ⟨i, hi⟩ := List.mem_iff_getElem?.1 hx
          obtain ⟨v, q1, q2⟩ := d6.get hi
          have hlt : i < us.length := (List.getElem?_eq_some_iff.1 q1).1
          have hy : ((o.cells.drop off).take (len * o.esz))[i]? = some (((o.cells.drop off).take (len * o.esz))[i]'(by rw [b1.length]; exact hlt)) := List.getElem?_eq_getElem _
          obtain ⟨v2, q3, q4⟩ := b1.get hy
          rw [q1] at q3; cases q3
          have h1 := oneCell_of_scal q4 (b3 _ (List.getElem_mem _))
          cases q2 <;> first | rfl | simp [Value.oneCell'] at h1
        cases hv with
        | ref _ _ _ _ cap' hvk hcl hcap hcp =>
        have hlen2 : cs.length = len * o.esz := d6.length.trans b2
        obtain ⟨g1, g2, g3⟩ := chunk_rvs o.eagg o.esz hsz len cs us d6 hscal (by omega)
        refine ⟨c2, d1, d2.trans a2, d3.trans a3, d4, a5.trans d5 H, ?_⟩
        cases len with
        | zero => exact .slE _ _ _ _ (by simp) (by simp) hcap
        | succ m =>
          have hne : chunk o.eagg o.esz (m + 1) cs ≠ [] := by simp [chunk]
          have hcl' := chunk_length o.eagg o.esz (m + 1) cs
          have := RV.slC (c := c2) (chunk o.eagg o.esz (m + 1) cs) (chunkV o.eagg o.esz (m + 1) us) (c.mu key) off o.esz cap cap' hne g1 g2
            (chunk_pure _ _ _ _ ((AV.pureL_all cs).1 hpure)) (d5.rd _ a6) (fun i cell hi => by
              rw [g3, List.take_of_length_le (by omega)] at hi
              rw [d2, a2]; exact b4 i cell hi) (by omega) hcap
          rw [hcl'] at this
          exact this
      · rename_i cs
        split at e
        case h_2 => cases e
        rename_i l hh e1
        split at e
        case isFalse => cases e
        rename_i hs
        cases e
        cases hv with
        | agg _ vs h1 h2 =>
        obtain ⟨c2, d1, d2, d3, d4, d5, d6⟩ := sealL_sound ih _ c l _ vs e1 H h1
        exact ⟨c2, d1, d2, d3, d4, d5, .agg _ _ d6 (List.all_eq_true.1 hs)⟩
      · rename_i cs
        split at e
        case h_2 => cases e
        rename_i l hh e1
        cases e
        cases hv with
        | tup _ vs h1 =>
        obtain ⟨c2, d1, d2, d3, d4, d5, d6⟩ := sealL_sound ih _ c l _ vs e1 H h1
        exact ⟨c2, d1, d2, d3, d4, d5, .tup _ _ d6⟩
      · cases e

end Ab
