/- append and copy, as the evaluator has them. Own work, no conditions. -/
import Derived.Test.YtbgmkcmailcciaaDoorB11
set_option linter.unusedVariables false
set_option linter.unusedSimpArgs false
namespace Ab
open Go

theorem inplace_sound (P : Program) {base c} (H : HR base c) {k o} (hk : lookK c.h k = some o) (hl : o.live = true) (hm : o.mt = true) (hx : o.exact = false) {ys us} (hv : RVs c ys us) (hs : ∀ x ∈ ys, x.scal = true)
    (hroom : o.cells.length + us.length ≤ (c.m k).2 * o.esz) {lvl slot h' k'} (hn : newK (setK c.h k { o with live := false }) lvl slot (o.cells ++ ys) false o.esz o.eagg = (h', k')) :
    ∃ c', c'.h = h' ∧ c'.m k' = c.m k ∧ c'.Vk k' ∧ (storeCells ⟨c.mu k, o.cells.length, none⟩ us).run P c.w = .ok () c'.w ∧ HR base c' ∧ Ext base c c' := by
  obtain ⟨arr, e, fr, h1, h2, h3, h4, h4b, h5⟩ := H.obj k o hk hl
  have hsize := h4b hx
  have hul := hv.length
  obtain ⟨arr', b1, b2, b3, b4⟩ := setCells_block (c.mu k) e fr us o.cells.length c.w arr h1 (by omega)
  have hmisc := setCells_misc (c.mu k) us o.cells.length c.w
  have hmut : c.Mut (c.mu k) := ⟨k, o, hk, hl, hm, rfl⟩
  unfold newK at hn
  cases hn
  let hd := setK c.h k { o with live := false }
  let k' : Key := (lvl, slot, genOf hd lvl slot)
  have hfd : lookK hd k' = none := lookK_fresh _ _ _
  have hne : k ≠ k' := by intro e; rw [← e] at hfd; rw [lookK_setK_same] at hfd; cases hfd
  have hfresh : lookK c.h k' = none := by
    change lookK (setK _ _ _) _ = _ at hfd
    rwa [lookK_setK_other _ _ _ _ hne] at hfd
  let c' : Cx := { w := c.w.setCells (c.mu k) o.cells.length us, Rd := c.Rd, m := fun q => if q = k' then c.m k else c.m q, h := setK hd k' ⟨o.cells ++ ys, true, true, false, o.esz, o.eagg⟩ }
  have hmq : ∀ q oq, lookK c.h q = some oq → c'.m q = c.m q := fun q oq hq => if_neg fun e => by subst e; rw [hfresh] at hq; cases hq
  have hmuq : ∀ q oq, lookK c.h q = some oq → c'.mu q = c.mu q := fun q oq hq => congrArg Prod.fst (hmq q oq hq)
  have hmk : c'.m k' = c.m k := if_pos rfl
  have hmuk : c'.mu k' = c.mu k := congrArg Prod.fst hmk
  have key : ∀ q oq, lookK c'.h q = some oq → (q = k' ∧ oq = ⟨o.cells ++ ys, true, true, false, o.esz, o.eagg⟩) ∨ (oq.live = false) ∨ (q ≠ k' ∧ q ≠ k ∧ lookK c.h q = some oq) := by
    intro q oq hq
    change lookK (setK (setK _ _ _) _ _) q = _ at hq
    rw [lookK_setK] at hq
    split at hq
    · rename_i e; cases hq; exact .inl ⟨e.symm, rfl⟩
    · rename_i e
      rw [lookK_setK] at hq
      split at hq
      · cases hq; exact .inr (.inl rfl)
      · rename_i e2; exact .inr (.inr ⟨fun x => e x.symm, fun x => e2 x.symm, hq⟩)
  have hX : Ext base c c' := by
    refine ⟨hmisc.1, hmisc.2.1, hmisc.2.2.1, Nat.le_of_eq hmisc.2.2.2.symm, fun b hb hn => setCells_heap _ _ _ _ b fun e => hn (e ▸ hmut), fun _ h => h, ?_, fun b h => .inl h, ?_⟩
    · rintro q ⟨oq, hq⟩
      refine ⟨?_, hmq q oq hq⟩
      show ∃ _, lookK (setK (setK _ _ _) _ _) q = _
      rw [lookK_setK]; split
      · exact ⟨_, rfl⟩
      · rw [lookK_setK]; split
        · exact ⟨_, rfl⟩
        · exact ⟨_, hq⟩
    · rintro b ⟨q, oq, hq, ql, qm, rfl⟩
      refine .inl ?_
      rcases key q oq hq with ⟨rfl, rfl⟩ | hd | ⟨n1, n2, hq'⟩
      · rw [hmuk]; exact hmut
      · rw [hd] at ql; cases ql
      · rw [hmuq q oq hq']; exact ⟨q, oq, hq', ql, qm, rfl⟩
  have hother : ∀ q oq, q ≠ k → lookK c.h q = some oq → oq.live = true → c.mu q ≠ c.mu k := by
    intro q oq hqk hq ql e
    cases hqm : oq.mt with
    | true => exact hqk (H.inj q oq k o hq hk ql hl hqm hm e)
    | false => exact (H.mt k o hk hl hm).1 (e ▸ H.sld q oq hq ql hqm)
  refine ⟨c', rfl, hmk, ⟨_, lookK_setK_same _ _ _⟩, ?_, ?_, hX⟩
  · have hcell : ∀ j, j < us.length → c.w.cell? ⟨c.mu k, o.cells.length + j, none⟩ = arr[o.cells.length + j]? := fun j _ => by simp [World.cell?, h1]
    have := run_storeCells_cells (P := P) (c.mu k) o.cells.length us 0 c.w (fun j hj => by
        rw [Nat.add_zero, hcell j hj, Array.getElem?_eq_getElem (by omega)]; rfl)
      (fun j hj => by
        have := h2 (o.cells.length + j) (by omega)
        simp only [World.frozen?, Nat.add_zero, h1]
        simpa using this)
      (fun v hv' => by
        obtain ⟨i, hi⟩ := List.mem_iff_getElem?.1 hv'
        obtain ⟨hi', _⟩ := List.getElem?_eq_some_iff.1 hi
        have hx : ys[i]? = some (ys[i]'(by omega)) := List.getElem?_eq_getElem (by omega)
        obtain ⟨v', q1, q2⟩ := hv.get hx
        rw [hi] at q1; cases q1
        exact oneCell_of_scal q2 (hs _ (List.getElem_mem _)))
    simpa using this
  · refine ⟨?_, ?_, ?_, ?_, fun b hb => ?_⟩
    · intro q oq hq ql
      rcases key q oq hq with ⟨rfl, rfl⟩ | hd | ⟨n1, n2, hq'⟩
      · refine ⟨arr', e, fr, by rw [hmuk]; exact b1, fun i hi => h2 i (by omega), by simp only [List.length_append]; omega, by simp, fun _ => by rw [hmk, b2]; exact hsize, fun i x hx => ?_⟩
        dsimp only at hx
        rw [List.getElem?_append] at hx
        split at hx
        · rename_i hi
          obtain ⟨v, q1, q2, q3⟩ := h5 i x hx
          exact ⟨v, by rw [b4 i (.inl hi)]; exact q1, hX.rv H q2, q3⟩
        · rename_i hi
          obtain ⟨v, q1, q2⟩ := hv.get hx
          have hlt := (List.getElem?_eq_some_iff.1 q1).1
          refine ⟨v, ?_, hX.rv H q2, hs _ (List.mem_of_getElem? hx)⟩
          have := b3 (i - o.cells.length) hlt
          rw [show o.cells.length + (i - o.cells.length) = i by omega] at this
          rw [this]; exact q1
      · rw [hd] at ql; cases ql
      · obtain ⟨ar, er, fr', g1, g2, g3, g4, g4b, g5⟩ := H.obj q oq hq' ql
        refine ⟨ar, er, fr', ?_, g2, g3, g4, fun hx => by rw [hmq q oq hq']; exact g4b hx, fun i x hx => by
          obtain ⟨v, q1, q2, q3⟩ := g5 i x hx
          exact ⟨v, q1, hX.rv H q2, q3⟩⟩
        rw [hmuq q oq hq']
        exact (setCells_heap _ _ _ _ _ (hother q oq n2 hq' ql)).trans g1
    · intro q oq hq ql qm
      rcases key q oq hq with ⟨rfl, rfl⟩ | hd | ⟨n1, n2, hq'⟩
      · rw [hmuk]; exact H.mt k o hk hl hm
      · rw [hd] at ql; cases ql
      · rw [hmuq q oq hq']; exact H.mt q oq hq' ql qm
    · intro q oq hq ql qm
      rcases key q oq hq with ⟨rfl, rfl⟩ | hd | ⟨n1, n2, hq'⟩
      · cases qm
      · rw [hd] at ql; cases ql
      · rw [hmuq q oq hq']; exact H.sld q oq hq' ql qm
    · intro q oq q' oq' hq hq' ql ql' qm qm' e
      rcases key q oq hq with ⟨rfl, rfl⟩ | hd | ⟨n1, n2, hq1⟩
      · rcases key q' oq' hq' with ⟨rfl, rfl⟩ | hd | ⟨n1', n2', hq2⟩
        · rfl
        · rw [hd] at ql'; cases ql'
        · rw [hmuk, hmuq q' oq' hq2] at e
          exact absurd e.symm (hother q' oq' n2' hq2 ql')
      · rw [hd] at ql; cases ql
      · rcases key q' oq' hq' with ⟨rfl, rfl⟩ | hd | ⟨n1', n2', hq2⟩
        · rw [hmuk, hmuq q oq hq1] at e
          exact absurd e (hother q oq n2 hq1 ql)
        · rw [hd] at ql'; cases ql'
        · rw [hmuq q oq hq1, hmuq q' oq' hq2] at e
          exact H.inj _ _ _ _ hq1 hq2 ql ql' qm qm' e
    · show b < (c.w.setCells _ _ _).heap.size
      rw [hmisc.2.2.2]; exact H.rd b hb

/-- A thing that is no more. -/
theorem dead_sound {base c} (H : HR base c) {k o} (hk : lookK c.h k = some o) : ∃ c', c'.h = setK c.h k { o with live := false } ∧ c'.w = c.w ∧ c'.m = c.m ∧ HR base c' ∧ Ext base c c' := by
  let c' : Cx := { c with h := setK c.h k { o with live := false } }
  have key : ∀ q oq, lookK c'.h q = some oq → oq.live = true → lookK c.h q = some oq := by
    intro q oq hq ql
    change lookK (setK _ _ _) q = _ at hq
    rw [lookK_setK] at hq
    split at hq
    · cases hq; cases ql
    · exact hq
  have hX : Ext base c c' := by
    refine ⟨rfl, rfl, rfl, Nat.le_refl _, fun _ _ _ => rfl, fun _ h => h, ?_, fun b h => .inl h, ?_⟩
    · rintro q ⟨oq, hq⟩
      refine ⟨?_, rfl⟩
      show ∃ _, lookK (setK _ _ _) q = _
      rw [lookK_setK]; split
      · exact ⟨_, rfl⟩
      · exact ⟨_, hq⟩
    · rintro b ⟨q, oq, hq, ql, qm, rfl⟩
      exact .inl ⟨q, oq, key q oq hq ql, ql, qm, rfl⟩
  refine ⟨c', rfl, rfl, rfl, ⟨?_, ?_, ?_, ?_, H.rd⟩, hX⟩
  · intro q oq hq ql
    obtain ⟨ar, er, fr', g1, g2, g3, g4, g4b, g5⟩ := H.obj q oq (key q oq hq ql) ql
    exact ⟨ar, er, fr', g1, g2, g3, g4, g4b, fun i x hx => by
      obtain ⟨v, q1, q2, q3⟩ := g5 i x hx
      exact ⟨v, q1, hX.rv H q2, q3⟩⟩
  · exact fun q oq hq ql qm => H.mt q oq (key q oq hq ql) ql qm
  · exact fun q oq hq ql qm => H.sld q oq (key q oq hq ql) ql qm
  · exact fun q oq q' oq' hq hq' ql ql' qm qm' e => H.inj _ _ _ _ (key q oq hq ql) (key q' oq' hq' ql') ql ql' qm qm' e

end Ab
