/- Reads, writes and new memory, as the evaluator has them. Own work, no conditions. -/
import Derived.Test.YtbgmkcmailcciaaDoorB3
import Derived.Laws.IdiomCopy
set_option linter.unusedVariables false
set_option linter.unusedSimpArgs false
namespace Ab
open Go

theorem lookK_setK_same : ∀ (h : Heap) (k : Key) (o : AObj), lookK (setK h k o) k = some o
  | [], k, o => by simp [setK, lookK]
  | (k', o') :: r, k, o => by
    by_cases e : k' = k
    · simp [setK, lookK, e]
    · simp [setK, lookK, e, lookK_setK_same r k o]
theorem lookK_setK_other : ∀ (h : Heap) (k q : Key) (o : AObj), k ≠ q → lookK (setK h k o) q = lookK h q
  | [], k, q, o, e => by simp [setK, lookK, e]
  | (k', o') :: r, k, q, o, e => by
    by_cases e' : k' = k
    · subst e'; simp [setK, lookK, e]
    · by_cases e2 : k' = q
      · subst e2; simp [setK, lookK, e']
      · simp [setK, lookK, e', e2, lookK_setK_other r k q o e]
theorem lookK_setK (h : Heap) (k q : Key) (o : AObj) : lookK (setK h k o) q = if k = q then some o else lookK h q := by
  by_cases e : k = q
  · subst e; simp [lookK_setK_same]
  · simp [e, lookK_setK_other h k q o e]
theorem genOf_gt : ∀ (h : Heap) (l s g : Nat) (o : AObj), lookK h (l, s, g) = some o → g < genOf h l s
  | [], l, s, g, o, h => by simp [lookK] at h
  | ((l', s', g'), o') :: r, l, s, g, o, h => by
    simp only [lookK] at h
    simp only [genOf]
    split at h
    · rename_i e; cases e; simp; omega
    · have := genOf_gt r l s g o h
      split <;> omega
theorem lookK_fresh (h : Heap) (l s : Nat) : lookK h (l, s, genOf h l s) = none := by
  cases e : lookK h (l, s, genOf h l s) with
  | none => rfl
  | some o => exact absurd (genOf_gt h l s _ o e) (by omega)

theorem oneCell_of_scal {c : Cx} {x v} (h : RV c x v) (hs : x.scal = true) : v.oneCell' = true := by
  cases h <;> first | rfl | simp [AV.scal] at hs

theorem run_loadCellsFrom_at (P : Program) (b off : Nat) : ∀ (vs : List Value) (i : Nat) (acc : Array Value) (w : World), (∀ j cell, vs[j]? = some cell → w.cell? ⟨b, off + (i + j), none⟩ = some cell) →
    (loadCellsFrom ⟨b, off, none⟩ i vs.length acc).run P w = .ok (acc ++ vs.toArray) w
  | [], i, acc, w, h => by simp [loadCellsFrom]
  | v :: r, i, acc, w, h => by
    have hadd : (⟨b, off, none⟩ : Addr).add i = ⟨b, off + i, none⟩ := by unfold Addr.add; split <;> simp_all
    have h0 := h 0 v rfl
    simp only [Nat.add_zero] at h0
    have ih := run_loadCellsFrom_at P b off r (i + 1) (acc.push v) w fun j cell hj => by
      have := h (j + 1) cell (by simpa using hj)
      rwa [show i + (j + 1) = i + 1 + j by omega] at this
    simp only [List.length_cons, loadCellsFrom, Sem.run_bind, hadd, load, Sem.run, h0]
    simp only [Result.andThen]
    rw [ih]
    simp
theorem run_loadCells_at (P : Program) (b off : Nat) (vs : List Value) (w : World) (n : Nat) (hn : n = vs.length) (h : ∀ j cell, vs[j]? = some cell → w.cell? ⟨b, off + j, none⟩ = some cell) :
    (loadCells ⟨b, off, none⟩ n).run P w = .ok vs.toArray w := by
  subst hn
  unfold loadCells
  rw [run_loadCellsFrom_at P b off vs 0 #[] w (by simpa using h)]
  simp

/-- An own thing's cells, read. -/
theorem HR.cells {base c} (H : HR base c) {k o} (hk : lookK c.h k = some o) (hl : o.live = true) (off n : Nat) (hn : off + n ≤ o.cells.length) :
    ∃ vs : List Value, RVs c ((o.cells.drop off).take n) vs ∧ vs.length = n ∧ (∀ x ∈ (o.cells.drop off).take n, x.scal = true) ∧ ∀ (i : Nat) cell, vs[i]? = some cell → c.w.cell? ⟨c.mu k, off + i, none⟩ = some cell := by
  obtain ⟨arr, e, fr, h1, h2, h3, h4, h4b, h5⟩ := H.obj k o hk hl
  refine ⟨(arr.toList.drop off).take n, ?_, by simp; omega, ?_, ?_⟩
  · refine .of_get (by simp; omega) fun i x v hx hv => ?_
    rw [List.getElem?_take, List.getElem?_drop] at hx hv
    split at hx
    · rename_i hi
      rw [if_pos hi] at hv
      obtain ⟨v', a1, a2, _⟩ := h5 _ _ hx
      rw [Array.getElem?_toList, a1] at hv; cases hv; exact a2
    · cases hx
  · intro x hx
    obtain ⟨i, hi⟩ := List.mem_iff_getElem?.1 hx
    rw [List.getElem?_take, List.getElem?_drop] at hi
    split at hi
    · obtain ⟨v', a1, a2, a3⟩ := h5 _ _ hi; exact a3
    · cases hi
  · intro i cell hi
    rw [List.getElem?_take, List.getElem?_drop] at hi
    split at hi
    · rw [Array.getElem?_toList] at hi
      simp [World.cell?, h1, hi]
    · cases hi

theorem readC_sound {base c} (H : HR base c) {p v cs n} (hr : readC c.h p n = some cs) (hv : RV c p v) :
    ∃ b off vs, v = .pointer (some ⟨b, off, none⟩) ∧ RVs c cs vs ∧ vs.length = n ∧ (∀ x ∈ cs, x.scal = true) ∧ ∀ (i : Nat) cell, vs[i]? = some cell → c.w.cell? ⟨b, off + i, none⟩ = some cell := by
  unfold readC at hr
  split at hr
  · rename_i key off
    split at hr
    · rename_i o ho
      split at hr
      · rename_i hc
        cases hr
        cases hv with
        | ptr _ _ hvk =>
          obtain ⟨vs, a1, a2, a3, a4⟩ := H.cells ho hc.1 off n hc.2
          exact ⟨_, off, vs, rfl, a1, a2, a3, a4⟩
      · cases hr
    · cases hr
  · rename_i cs'
    split at hr
    · rename_i hn
      cases hr
      cases hv with
      | pel _ vs b off h1 h2 h3 h4 h5 =>
        refine ⟨b, off, vs.take n, rfl, h1.take n, by have := h1.length; simp; omega, fun x hx => h2 x (List.mem_of_mem_take hx), fun i cell hi => ?_⟩
        rw [List.getElem?_take] at hi
        split at hi
        · exact h5 i cell hi
        · cases hi
    · cases hr
  · cases hr

theorem setCells_heap (b : Nat) : ∀ (vs : List Value) (o : Nat) (w : World) (x : Nat), x ≠ b → (w.setCells b o vs).heap[x]? = w.heap[x]?
  | [], _, _, _, _ => rfl
  | v :: r, o, w, x, h => by
    rw [World.setCells, setCells_heap b r _ _ x h]
    exact Go.RowKit.Below.heap_setCell _ _ _ _ h
theorem setCells_misc (b : Nat) : ∀ (vs : List Value) (o : Nat) (w : World), (w.setCells b o vs).os = w.os ∧ (w.setCells b o vs).tape = w.tape ∧ (w.setCells b o vs).output = w.output ∧ (w.setCells b o vs).heap.size = w.heap.size
  | [], _, _ => ⟨rfl, rfl, rfl, rfl⟩
  | v :: r, o, w => by
    have := setCells_misc b r (o + 1) (w.setCell ⟨b, o, none⟩ v)
    simpa [World.setCells, World.setCell] using this
theorem setCells_block (b : Nat) (e : TypeId) (fr : Nat × Nat) : ∀ (vs : List Value) (o : Nat) (w : World) (arr : Array Value), w.heap[b]? = some (.cells arr e fr) → o + vs.length ≤ arr.size →
    ∃ arr', (w.setCells b o vs).heap[b]? = some (.cells arr' e fr) ∧ arr'.size = arr.size ∧ (∀ i, i < vs.length → arr'[o + i]? = vs[i]?) ∧ ∀ i, (i < o ∨ o + vs.length ≤ i) → arr'[i]? = arr[i]?
  | [], o, w, arr, h, _ => ⟨arr, h, rfl, fun i hi => by simp at hi, fun _ _ => rfl⟩
  | v :: r, o, w, arr, h, hl => by
    have h1 : (w.setCell ⟨b, o, none⟩ v).heap[b]? = some (.cells (arr.setIfInBounds o v) e fr) := by
      simp [World.setCell, Array.getElem?_modify, h]
    obtain ⟨arr', a1, a2, a3, a4⟩ := setCells_block b e fr r (o + 1) _ _ h1 (by simp at hl ⊢; omega)
    refine ⟨arr', a1, by simpa using a2, fun i hi => ?_, fun i hi => ?_⟩
    · cases i with
      | zero =>
        rw [Nat.add_zero, a4 o (by omega)]
        simp at hl
        simp [Array.getElem?_setIfInBounds]; omega
      | succ i =>
        have := a3 i (by simpa using hi)
        rw [show o + (i + 1) = o + 1 + i by omega, this]; simp
    · simp at hi
      rw [a4 i (by omega), Array.getElem?_setIfInBounds, if_neg (by omega)]

theorem writeL_length (cs : List AV) (off : Nat) (vs : List AV) (h : off + vs.length ≤ cs.length) : (writeL cs off vs).length = cs.length := by
  simp [writeL]; omega
theorem writeL_get (cs : List AV) (off : Nat) (vs : List AV) (h : off + vs.length ≤ cs.length) (i : Nat) :
    (writeL cs off vs)[i]? = if i < off then cs[i]? else if i < off + vs.length then vs[i - off]? else cs[i]? := by
  unfold writeL
  rw [List.append_assoc, List.getElem?_append, List.getElem?_append]
  simp only [List.length_take, List.getElem?_take, List.getElem?_drop]
  have : min off cs.length = off := by omega
  rw [this]
  by_cases h1 : i < off
  · simp [h1]
  · simp only [h1, if_false]
    by_cases h2 : i < off + vs.length
    · rw [if_pos (by omega), if_pos h2]
    · rw [if_neg (by omega), if_neg h2]; congr 1; omega

theorem Ext.same' {base c c'} (e : Ext base c c') (h : HR base c) (k : Key) (o : AObj) (hk : lookK c.h k = some o) (hl : o.live = true) (hm : o.mt = false) : c'.w.heap[c.mu k]? = c.w.heap[c.mu k]? :=
  (e.same h (h.sld k o hk hl hm)).2

theorem writeC_sound (P : Program) {base c} (H : HR base c) {k off vs us h'} (hw : writeC c.h k off vs = some h') (hv : RVs c vs us) :
    ∃ c', c'.h = h' ∧ c'.m = c.m ∧ (storeCells ⟨c.mu k, off, none⟩ us).run P c.w = .ok () c'.w ∧ HR base c' ∧ Ext base c c' := by
  unfold writeC at hw
  split at hw
  case h_2 => cases hw
  rename_i o ho
  split at hw
  case isFalse => cases hw
  rename_i hc
  cases hw
  obtain ⟨hl, hm, hlen, hsc⟩ := hc
  obtain ⟨arr, e, fr, h1, h2, h3, h4, h4b, h5⟩ := H.obj k o ho hl
  have hul := hv.length
  obtain ⟨arr', b1, b2, b3, b4⟩ := setCells_block (c.mu k) e fr us off c.w arr h1 (by omega)
  have hmisc := setCells_misc (c.mu k) us off c.w
  have hmut : c.Mut (c.mu k) := ⟨k, o, ho, hl, hm, rfl⟩
  let c' : Cx := { c with w := c.w.setCells (c.mu k) off us, h := setK c.h k { o with cells := writeL o.cells off vs } }
  have hX : Ext base c c' := by
    refine ⟨hmisc.1, hmisc.2.1, hmisc.2.2.1, Nat.le_of_eq hmisc.2.2.2.symm, fun b hb hn => setCells_heap _ _ _ _ b fun e => hn (e ▸ hmut), fun _ h => h, ?_, fun b h => .inl h, ?_⟩
    · rintro q ⟨oq, hq⟩
      refine ⟨?_, rfl⟩
      show ∃ _, lookK (setK _ _ _) q = _
      rw [lookK_setK]; split
      · exact ⟨_, rfl⟩
      · exact ⟨_, hq⟩
    · rintro b ⟨q, oq, hq, ql, qm, rfl⟩
      refine .inl ?_
      change lookK (setK _ _ _) q = _ at hq
      rw [lookK_setK] at hq
      split at hq
      · rename_i e; subst e; exact hmut
      · exact ⟨q, oq, hq, ql, qm, rfl⟩
  refine ⟨c', rfl, rfl, ?_, ?_, hX⟩
  · have hcell : ∀ j, j < us.length → c.w.cell? ⟨c.mu k, off + j, none⟩ = arr[off + j]? := fun j _ => by simp [World.cell?, h1]
    have := run_storeCells_cells (P := P) (c.mu k) off us 0 c.w (fun j hj => by
        rw [Nat.add_zero, hcell j hj, Array.getElem?_eq_getElem (by omega)]; rfl)
      (fun j hj => by
        have := h2 (off + j) (by omega)
        simp only [World.frozen?, Nat.add_zero, h1]
        simpa using this)
      (fun v hv' => by
        obtain ⟨i, hi⟩ := List.mem_iff_getElem?.1 hv'
        obtain ⟨hi', _⟩ := List.getElem?_eq_some_iff.1 hi
        have hx : vs[i]? = some (vs[i]'(by omega)) := List.getElem?_eq_getElem (by omega)
        obtain ⟨v', q1, q2⟩ := hv.get hx
        rw [hi] at q1; cases q1
        exact oneCell_of_scal q2 (List.all_eq_true.1 hsc _ (List.getElem_mem _)))
    simpa using this
  · have key : ∀ q oq, lookK c'.h q = some oq → (q = k ∧ oq = { o with cells := writeL o.cells off vs }) ∨ (q ≠ k ∧ lookK c.h q = some oq) := by
      intro q oq hq
      change lookK (setK _ _ _) q = _ at hq
      rw [lookK_setK] at hq
      split at hq
      · rename_i e; cases hq; exact .inl ⟨e.symm, rfl⟩
      · rename_i e; exact .inr ⟨fun x => e x.symm, hq⟩
    refine ⟨?_, ?_, ?_, ?_, fun b hb => ?_⟩
    · intro q oq hq ql
      rcases key q oq hq with ⟨rfl, rfl⟩ | ⟨hne, hq'⟩
      · refine ⟨arr', e, fr, b1, fun i hi => h2 i (by omega), by rw [b2]; simpa [writeL_length _ _ _ hlen] using h3, fun hx => by rw [b2, writeL_length _ _ _ hlen]; exact h4 hx, fun hx => by rw [b2]; exact h4b hx, fun i x hx => ?_⟩
        dsimp only at hx
        rw [writeL_get _ _ _ hlen] at hx
        split at hx
        · rename_i hi
          obtain ⟨v, q1, q2, q3⟩ := h5 i x hx
          exact ⟨v, by rw [b4 i (.inl hi)]; exact q1, hX.rv H q2, q3⟩
        · rename_i hi
          split at hx
          · rename_i hi2
            obtain ⟨v, q1, q2⟩ := hv.get hx
            refine ⟨v, ?_, hX.rv H q2, List.all_eq_true.1 hsc _ (List.mem_of_getElem? hx)⟩
            have := b3 (i - off) (by omega)
            rw [show off + (i - off) = i by omega] at this
            rw [this]; exact q1
          · rename_i hi2
            obtain ⟨v, q1, q2, q3⟩ := h5 i x hx
            exact ⟨v, by rw [b4 i (.inr (by omega))]; exact q1, hX.rv H q2, q3⟩
      · obtain ⟨ar, er, fr', g1, g2, g3, g4, g4b, g5⟩ := H.obj q oq hq' ql
        have hne' : c.mu q ≠ c.mu k := by
          intro e
          cases hqm : oq.mt with
          | true => exact hne (H.inj q oq k o hq' ho ql hl hqm hm e)
          | false => exact (H.mt k o ho hl hm).1 (e ▸ H.sld q oq hq' ql hqm)
        exact ⟨ar, er, fr', (setCells_heap _ _ _ _ _ hne').trans g1, g2, g3, g4, g4b, fun i x hx => by
          obtain ⟨v, q1, q2, q3⟩ := g5 i x hx
          exact ⟨v, q1, hX.rv H q2, q3⟩⟩
    · intro q oq hq ql qm
      rcases key q oq hq with ⟨rfl, rfl⟩ | ⟨hne, hq'⟩
      · exact H.mt q o ho hl hm
      · exact H.mt q oq hq' ql qm
    · intro q oq hq ql qm
      rcases key q oq hq with ⟨rfl, rfl⟩ | ⟨hne, hq'⟩
      · rw [hm] at qm; cases qm
      · exact H.sld q oq hq' ql qm
    · intro q oq q' oq' hq hq' ql ql' qm qm' e
      rcases key q oq hq with ⟨rfl, rfl⟩ | ⟨hne, hq1⟩
      · rcases key q' oq' hq' with ⟨rfl, rfl⟩ | ⟨hne', hq2⟩
        · rfl
        · exact H.inj _ _ _ _ ho hq2 hl ql' hm qm' e
      · rcases key q' oq' hq' with ⟨rfl, rfl⟩ | ⟨hne', hq2⟩
        · exact H.inj _ _ _ _ hq1 ho ql hl qm hm e
        · exact H.inj _ _ _ _ hq1 hq2 ql ql' qm qm' e
    · show b < (c.w.setCells _ _ _).heap.size
      rw [hmisc.2.2.2]; exact H.rd b hb

/-- A new block for a new key. -/
theorem newK_sound {base c} (H : HR base c) (hb : base ≤ c.w.heap.size) {lvl slot cs exact esz eagg h' k'} (hn : newK c.h lvl slot cs exact esz eagg = (h', k'))
    (arr : Array Value) (e : TypeId) (fr : Nat × Nat) (hfr : ∀ i, i < arr.size → ¬ (fr.1 ≤ i ∧ i < fr.2)) (hlen : cs.length ≤ arr.size) (hex : exact = true → arr.size = cs.length) (cp : Nat) (hcp : exact = false → arr.size = cp * esz)
    (hcs : ∀ (i : Nat) x, cs[i]? = some x → ∃ v, arr[i]? = some v ∧ RV c x v ∧ x.scal = true) (n : Nat) :
    ∃ c', c'.h = h' ∧ c'.w = { c.w with heap := c.w.heap.push (.cells arr e fr), drawn := c.w.drawn + n } ∧ c'.m k' = (c.w.heap.size, cp) ∧ c'.Vk k' ∧ HR base c' ∧ Ext base c c' := by
  unfold newK at hn
  cases hn
  let k : Key := (lvl, slot, genOf c.h lvl slot)
  have hfresh : lookK c.h k = none := lookK_fresh _ _ _
  let c' : Cx := { w := { c.w with heap := c.w.heap.push (.cells arr e fr), drawn := c.w.drawn + n }, Rd := c.Rd, m := fun q => if q = k then (c.w.heap.size, cp) else c.m q, h := setK c.h k ⟨cs, true, true, exact, esz, eagg⟩ }
  have hm : ∀ q o, lookK c.h q = some o → c'.m q = c.m q := fun q o hq => if_neg fun e => by subst e; rw [hfresh] at hq; cases hq
  have hmu : ∀ q o, lookK c.h q = some o → c'.mu q = c.mu q := fun q o hq => congrArg Prod.fst (hm q o hq)
  have hmk : c'.m k = (c.w.heap.size, cp) := if_pos rfl
  have hmuk : c'.mu k = c.w.heap.size := congrArg Prod.fst hmk
  have hold : ∀ b, b < c.w.heap.size → c'.w.heap[b]? = c.w.heap[b]? := fun b hb' => by
    show (c.w.heap.push _)[b]? = _
    rw [Array.getElem?_push, if_neg (by omega)]
  have key : ∀ q oq, lookK c'.h q = some oq → (q = k ∧ oq = ⟨cs, true, true, exact, esz, eagg⟩) ∨ (q ≠ k ∧ lookK c.h q = some oq) := by
    intro q oq hq
    change lookK (setK _ _ _) q = _ at hq
    rw [lookK_setK] at hq
    split at hq
    · rename_i e; cases hq; exact .inl ⟨e.symm, rfl⟩
    · rename_i e; exact .inr ⟨fun x => e x.symm, hq⟩
  have hX : Ext base c c' := by
    refine ⟨rfl, rfl, rfl, by show _ ≤ (c.w.heap.push _).size; simp, fun b hb' _ => hold b hb', fun _ h => h, ?_, fun b h => .inl h, ?_⟩
    · rintro q ⟨oq, hq⟩
      refine ⟨?_, hm q oq hq⟩
      show ∃ _, lookK (setK _ _ _) q = _
      rw [lookK_setK]; split
      · exact ⟨_, rfl⟩
      · exact ⟨_, hq⟩
    · rintro b ⟨q, oq, hq, ql, qm, rfl⟩
      rcases key q oq hq with ⟨rfl, rfl⟩ | ⟨hne, hq'⟩
      · exact .inr (by rw [hmuk]; exact Nat.le_refl _)
      · exact .inl ⟨q, oq, hq', ql, qm, (hmu q oq hq').symm⟩
  refine ⟨c', rfl, rfl, hmk, ⟨_, lookK_setK_same _ _ _⟩, ⟨?_, ?_, ?_, ?_, fun b hb' => ?_⟩, hX⟩
  · intro q oq hq ql
    rcases key q oq hq with ⟨rfl, rfl⟩ | ⟨hne, hq'⟩
    · refine ⟨arr, e, fr, ?_, hfr, hlen, hex, fun hx => by rw [hmk]; exact hcp hx, fun i x hx => ?_⟩
      · rw [hmuk]
        show (c.w.heap.push _)[_]? = _
        rw [Array.getElem?_push, if_pos rfl]
      · obtain ⟨v, q1, q2, q3⟩ := hcs i x hx
        exact ⟨v, q1, hX.rv H q2, q3⟩
    · obtain ⟨ar, er, fr', g1, g2, g3, g4, g4b, g5⟩ := H.obj q oq hq' ql
      refine ⟨ar, er, fr', ?_, g2, g3, g4, fun hx => by rw [hm q oq hq']; exact g4b hx, fun i x hx => by
        obtain ⟨v, q1, q2, q3⟩ := g5 i x hx
        exact ⟨v, q1, hX.rv H q2, q3⟩⟩
      rw [hmu q oq hq', hold _ (Array.getElem?_eq_some_iff.1 g1).1]; exact g1
  · intro q oq hq ql qm
    rcases key q oq hq with ⟨rfl, rfl⟩ | ⟨hne, hq'⟩
    · rw [hmuk]
      exact ⟨fun h => absurd (H.rd _ h) (by omega), hb⟩
    · rw [hmu q oq hq']; exact H.mt q oq hq' ql qm
  · intro q oq hq ql qm
    rcases key q oq hq with ⟨rfl, rfl⟩ | ⟨hne, hq'⟩
    · cases qm
    · rw [hmu q oq hq']; exact H.sld q oq hq' ql qm
  · have lt : ∀ q oq, lookK c.h q = some oq → oq.live = true → c.mu q < c.w.heap.size := fun q oq hq ql => by
      obtain ⟨ar, er, fr', g1, _⟩ := H.obj q oq hq ql
      exact (Array.getElem?_eq_some_iff.1 g1).1
    intro q oq q' oq' hq hq' ql ql' qm qm' e
    rcases key q oq hq with ⟨rfl, rfl⟩ | ⟨hne, hq1⟩
    · rcases key q' oq' hq' with ⟨rfl, rfl⟩ | ⟨hne', hq2⟩
      · rfl
      · rw [hmu q' oq' hq2] at e
        have := lt q' oq' hq2 ql'
        have e' : c.w.heap.size = c.mu q' := by rw [← e, hmuk]
        omega
    · rcases key q' oq' hq' with ⟨rfl, rfl⟩ | ⟨hne', hq2⟩
      · rw [hmu q oq hq1] at e
        have := lt q oq hq1 ql
        have e' : c.mu q = c.w.heap.size := by rw [e, hmuk]
        omega
      · rw [hmu q oq hq1, hmu q' oq' hq2] at e
        exact H.inj _ _ _ _ hq1 hq2 ql ql' qm qm' e
  · show b < (c.w.heap.push _).size
    have := H.rd b hb'
    simp; omega

end Ab
