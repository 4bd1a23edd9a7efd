/- One operation of the evaluator is the model's. Own work, no conditions. -/
import Derived.Test.YtbgmkcmailcciaaDoorB14
set_option linter.unusedVariables false
set_option linter.unusedSimpArgs false
namespace Ab
open Go

/-- What an operation owes. -/
def OpS (P : Program) (base : Nat) (c : Cx) (s : Sem Next) : OpR → Prop
  | .val v h' => ∃ val c', c'.h = h' ∧ s.run P c.w = .ok (.value val) c'.w ∧ RV c' v val ∧ HR base c' ∧ Ext base c c'
  | .skip h' => ∃ c', c'.h = h' ∧ s.run P c.w = .ok .skip c'.w ∧ HR base c' ∧ Ext base c c'
  | .call f args => ∃ vals : List Value, s.run P c.w = (callFunc f ⟨vals⟩).run P c.w ∧ RVs c args vals
  | .panic v => ∃ val, s.run P c.w = .halt (.panic val) c.w ∧ RV c v val

theorem Made.op {P base c s v h'} (h : Made P base c s v h') : OpS P base c (do pure (Next.value (← s))) (.val v h') := by
  obtain ⟨val, c', a1, a2, a3, a4, a5⟩ := h
  exact ⟨val, c', a1, by simp [a2], a3, a4, a5⟩
theorem Comp.op {P base c s v} (h : Comp P c s v) (H : HR base c) : OpS P base c (do pure (Next.value (← s))) (.val v c.h) := (h.made H).op

theorem strbytes_sound {P E} (O : EnvOK P E) {base c} (H : HR base c) (hb : base ≤ c.w.heap.size) {lvl slot src dst e l a b z m v h' k'} {z1 : List AV} {m1 : Bool} (hd : E.ty dst = some ⟨.slice e, a, b, z, m⟩) (he : E.ty e = some ⟨.int .u8, 1, 1, z1, m1⟩) (hs : (P.underlying src).isSome = true) (hv : RV c (.str l) v)
    (hn : newK c.h lvl slot (l.map (AV.int .u8)) false 1 false = (h', k')) : Made P base c (convert src dst v) (.ref k' 0 l.length none) h' := by
  cases hv with
  | str _ s e1 =>
  subst e1
  obtain ⟨ds, hds⟩ := Option.isSome_iff_exists.1 hs
  let cap := (Question.appendCap s.size 0 e).cut (c.w.tape c.w.drawn (.appendCap s.size 0 e))
  have hcap : s.size ≤ cap := by show _ ≤ _ + _; omega
  let elems : Array Value := s.data.map fun b => .int .u8 b.toNat
  let arr : Array Value := elems ++ Array.replicate (cap - s.size) (.int .u8 0)
  have hsz : arr.size = cap := by simp [arr, elems]; omega
  have hls : (s.data.toList.map fun b => (b.toNat : Int)).length = s.size := by simp
  obtain ⟨c', a1, a2, a3, a4, a5, a6⟩ := newK_sound H hb hn arr e (arr.size, arr.size + 1) (fun i hi => by simp; omega) (by simp only [List.length_map, hls]; rw [hsz]; simpa using hcap) (by simp) cap (fun _ => by rw [hsz]; omega)
    (fun i x hx => by
      simp only [List.getElem?_map, Option.map_map] at hx
      cases e : s.data.toList[i]? with
      | none => rw [e] at hx; cases hx
      | some b =>
        rw [e] at hx; cases hx
        refine ⟨.int .u8 b.toNat, ?_, .int _ _, rfl⟩
        have hlt : i < s.data.size := by have := (List.getElem?_eq_some_iff.1 e).1; simpa using this
        rw [Array.getElem?_append_left (by simpa [elems] using hlt)]
        simp only [elems, Array.getElem?_map]
        rw [← Array.getElem?_toList, e]; rfl) 1
  have hmu : c'.mu k' = c.w.heap.size := congrArg Prod.fst a3
  rw [hls]
  refine ⟨.slice (some ⟨c.w.heap.size, 0, none⟩) s.size cap, c', a1, ?_, ?_, a5, a6⟩
  · simp only [convert, Sem.run_bind, run_underlying hds, run_underlying (under_slice O hd), run_underlying (under_int O he), Result.andThen_ok]
    rw [a2]
    have hmark : ∀ w : World, w.heap[c.w.heap.size]? = some (.cells arr e (0, 0)) → (markStringish ⟨c.w.heap.size, 0, none⟩).run P w = .ok () (w.freeze ⟨c.w.heap.size, arr.size, none⟩ 1) := by
      intro w hw
      simp [markStringish, World.shape?, hw]
    have hpush : ∀ W : World, W.heap = c.w.heap.push (Obj.cells arr e) → W.freeze ⟨c.w.heap.size, arr.size, none⟩ 1 = { W with heap := c.w.heap.push (.cells arr e (arr.size, arr.size + 1)) } := by
      intro W hW
      simp only [World.freeze, Nat.one_ne_zero, if_false, hW]
      congr 1
      apply Array.ext_getElem?
      intro i
      rw [Array.getElem?_modify, Array.getElem?_push, Array.getElem?_push]
      by_cases hi : i = c.w.heap.size
      · subst hi; simp
      · simp [hi]
        intro h; exact absurd h.symm hi
    cases ds <;>
    · simp only [Conv.stringToBytes, Sem.run_bind, run_choose, Question.forced, Result.andThen_ok, Bool.false_eq_true, if_false, newRow, run_newObj, Sem.run_pure]
      rw [hmark _ (by simp [arr, elems, cap]), hpush _ rfl]
      rfl
  · rw [← hmu]
    exact .ref k' 0 _ none cap a4 hcap (by simp) (fun _ _ => by rw [a3])

end Ab
