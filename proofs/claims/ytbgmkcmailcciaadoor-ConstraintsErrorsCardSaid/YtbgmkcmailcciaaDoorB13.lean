/- append, copy and the other builtins, as the evaluator has them. Own work, no conditions. -/
import Derived.Test.YtbgmkcmailcciaaDoorB12
set_option linter.unusedVariables false
set_option linter.unusedSimpArgs false
namespace Ab
open Go

/-- The new row of an append that grows. -/
theorem grown_made (P : Program) {base c} (H : HR base c) (hb : base ≤ c.w.heap.size) {lvl slot zs ys esz eagg h' k'} (hn : newK c.h lvl slot (zs ++ ys) false esz eagg = (h', k')) {old new : List Value} (ho : RVs c zs old) (hw : RVs c ys new)
    (hs1 : ∀ x ∈ zs, x.scal = true) (hs2 : ∀ x ∈ ys, x.scal = true) {need cap : Nat} {rest : Array Value} (hz : zs.length + ys.length = need * esz) (hcap : need ≤ cap) (hrest : rest.size = (cap - need) * esz) (e : TypeId) {s : Sem Value}
    (hrun : s.run P c.w = .ok (.slice (some ⟨c.w.heap.size, 0, none⟩) need cap) { c.w with heap := c.w.heap.push (.cells (old.toArray ++ new.toArray ++ rest) e (0, 0)), drawn := c.w.drawn + 1 }) :
    Made P base c s (.ref k' 0 need none) h' := by
  have hl1 := ho.length
  have hl2 := hw.length
  have hcm : need * esz ≤ cap * esz := Nat.mul_le_mul_right _ hcap
  have hsub : (cap - need) * esz = cap * esz - need * esz := Nat.sub_mul _ _ _
  have hsize : (old.toArray ++ new.toArray ++ rest).size = cap * esz := by simp; omega
  obtain ⟨c', a1, a2, a3, a4, a5, a6⟩ := newK_sound H hb hn (old.toArray ++ new.toArray ++ rest) e (0, 0) (by simp) (by rw [hsize]; simp; omega) (by simp) cap (fun _ => hsize)
    (fun i x hx => by
      rw [List.getElem?_append] at hx
      split at hx
      · rename_i hi
        obtain ⟨v, q1, q2⟩ := ho.get hx
        refine ⟨v, ?_, q2, hs1 x (List.mem_of_getElem? hx)⟩
        have := (List.getElem?_eq_some_iff.1 q1).1
        rw [Array.append_assoc, Array.getElem?_append_left (by simpa using this)]; simpa using q1
      · rename_i hi
        obtain ⟨v, q1, q2⟩ := hw.get hx
        refine ⟨v, ?_, q2, hs2 x (List.mem_of_getElem? hx)⟩
        have := (List.getElem?_eq_some_iff.1 q1).1
        rw [Array.append_assoc, Array.getElem?_append_right (by simp; omega), Array.getElem?_append_left (by simp; omega)]
        simpa [← hl1] using q1) 1
  refine ⟨.slice (some ⟨c.w.heap.size, 0, none⟩) need cap, c', a1, ?_, ?_, a5, a6⟩
  · rw [hrun, a2]
  · have hmu : c'.mu k' = c.w.heap.size := congrArg Prod.fst a3
    rw [← hmu]
    exact .ref k' 0 need none cap a4 hcap (by simp) (fun _ _ => by rw [a3])

theorem appendA_sound {P E} (O : EnvOK P E) {base c} (H : HR base c) (hb : base ≤ c.w.heap.size) {lvl slot t s x r vs vx t2 τ2} {ts : Array TypeId} {ty : TypeId} {args : Array Value}
    (h : appendA E lvl slot c.h t s x = some r) (hvs : RV c s vs) (hvx : RV c x vx) (hts : ts[0]? = some t) (hts2 : ts[1]? = some t2) (ht2 : E.ty t2 = some τ2) (hni : ∀ k, τ2.d ≠ .int k)
    (h0 : args[0]? = some vs) (h1 : args[1]? = some vx) : ∃ v h', r = .val v h' ∧ Made P base c (Builtin.append_ ts ty args) v h' := by
  unfold appendA at h
  split at h
  case h_2 => cases h
  rename_i e _ _ _ _ ht
  split at h
  case h_2 => cases h
  rename_i τ ys n he hc
  split at h
  case isFalse => cases h
  rename_i hcnd
  obtain ⟨hyl, hys, hbytes⟩ := hcnd
  have hys' := List.all_eq_true.1 hys
  obtain ⟨us, u1, u2, u3⟩ := conts_sound P H hc hvx
  have hul := u1.length
  have hnew : ∀ w' : World, w'.heap = c.w.heap → (Builtin.firstCells τ.size n vx).run P w' = .ok us.toArray w' := by
    intro w' hw'
    have := u3 τ.size n hyl (Nat.le_refl _) w' hw'
    rwa [List.take_of_length_le (by omega)] at this
  split at h
  · rename_i f xs cap
    split at h
    · cases h
    rename_i cp
    have hlc : ∃ a, vs = .slice a xs.length cp := by
      cases hvs with
      | slE f a cap cap' g1 g2 g3 => exact ⟨a, by rw [g3 cp rfl]; rfl⟩
      | slC xs vs b off esz cap cap' g0 g1 g2 g3 g4 g5 g6 g7 => exact ⟨_, by rw [g7 cp rfl]⟩
    obtain ⟨a, rfl⟩ := hlc
    split at h
    · rename_i hroom
      split at h
      case isFalse => cases h
      rename_i hn0
      cases h
      subst hn0
      have us0 : us = [] := List.eq_nil_of_length_eq_zero (by omega)
      subst us0
      refine ⟨_, _, rfl, _, c, rfl, append_room O ht he hts hts2 ht2 hni h0 h1 u2 hroom (hnew c.w rfl) (w' := c.w) (fun a _ => by simp [storeCells]) (fun _ => rfl), ?_, H, .refl _ _⟩
      simpa using hvs
    · rename_i hroom
      split at h
      case isFalse => cases h
      rename_i hcnd
      obtain ⟨k1, k2, k2b, k3⟩ := hcnd
      cases h
      obtain ⟨os, o1, o2, o3⟩ := conts_sound P (x := .sl f xs (some cp)) (ys := xs.flatMap AV.cells) (n := xs.length) H rfl hvs
      have hol := o1.length
      have hold : ∀ w' : World, w'.heap = c.w.heap → (Builtin.firstCells τ.size xs.length (.slice a xs.length cp)).run P w' = .ok os.toArray w' := by
        intro w' hw'
        have := o3 τ.size xs.length k2 (Nat.le_refl _) w' hw'
        rwa [List.take_of_length_le (by omega)] at this
      have hscal := List.all_eq_true.1 k2b
      obtain ⟨cap2, rest, r1, r2, r3⟩ := append_grow (P := P) (ty := ty) O ht he hts hts2 ht2 hni h0 h1 u2 (by omega) k1 hbytes hnew hold
      exact ⟨_, _, rfl, grown_made P H hb rfl o1 u1 hscal hys' (by rw [k2, hyl, Nat.add_mul]) r1 r2 e r3⟩
  · rename_i k off len cap
    split at h
    case h_2 => cases h
    rename_i o hk
    split at h
    case isFalse => cases h
    rename_i hcnd
    obtain ⟨l1, l2, l3, l4, l5, l6⟩ := hcnd
    cases hvs with
    | ref _ _ _ _ cap' g1 g2 g3 g4 =>
    obtain ⟨os, o1, o2, o3, o4⟩ := H.cells hk l1 off (len * o.esz) l6
    have hol := o1.length
    have hold : ∀ w' : World, w'.heap = c.w.heap → (Builtin.firstCells τ.size len (.slice (some ⟨c.mu k, off, none⟩) len cap')).run P w' = .ok os.toArray w' := by
      intro w' hw'
      simp only [Builtin.firstCells]
      exact run_loadCells_at P _ off os w' _ (by rw [o2, l2]) fun j cell hj => by
        have := o4 j cell hj
        simpa [World.cell?, hw'] using this
    split at h
    · rename_i cp
      have hcp : cap' = cp := g3 cp rfl
      subst hcp
      split at h
      · rename_i hroom
        split at h
        case h_2 => cases h
        rename_i h2 hw
        cases h
        obtain ⟨c', a1, a2, a3, a4, a5⟩ := writeC_sound P H hw u1
        refine ⟨_, _, rfl, _, c', a1, append_room O ht he hts hts2 ht2 hni h0 h1 u2 hroom (hnew c.w rfl) (w' := c'.w) (fun a ha => by cases ha; rw [addr_add, ← l2]; simpa using a3) (by simp), ?_, a4, a5⟩
        have hmu : c.mu k = c'.mu k := by unfold Cx.mu; rw [a2]
        rw [hmu]
        exact .ref k off _ _ _ (a5.vk k g1).1 hroom g3 (by simp)
      · rename_i hroom
        split at h
        case isFalse => cases h
        rename_i k1
        cases h
        obtain ⟨cap2, rest, r1, r2, r3⟩ := append_grow (P := P) (ty := ty) O ht he hts hts2 ht2 hni h0 h1 u2 (by omega) k1 hbytes hnew hold
        exact ⟨_, _, rfl, grown_made P H hb rfl o1 u1 o3 hys' (by rw [hol, o2, hyl, l2, Nat.add_mul]) r1 r2 e r3⟩
    · split at h
      case isFalse => cases h
      rename_i hcnd
      obtain ⟨k1, k2, k3, k4, k5⟩ := hcnd
      subst k2
      cases h
      have hcp := g4 rfl rfl
      by_cases hroom : len + n ≤ cap'
      · have hm : (len + n) * o.esz ≤ (c.m k).2 * o.esz := Nat.mul_le_mul_right _ (by omega)
        have hr2 : o.cells.length + us.length ≤ (c.m k).2 * o.esz := by
          have : (len + n) * o.esz = len * o.esz + n * o.esz := Nat.add_mul _ _ _
          have h6 : us.length = n * o.esz := by rw [← hul, hyl, l2]
          omega
        obtain ⟨c', a1, a2, a3, a4, a5, a6⟩ := inplace_sound P H hk l1 k3 k4 u1 hys' hr2 (lvl := lvl) (slot := slot) rfl
        refine ⟨_, _, rfl, _, c', a1, append_room O ht he hts hts2 ht2 hni h0 h1 u2 hroom (hnew c.w rfl) (w' := c'.w) (fun a ha => by cases ha; rw [addr_add, ← l2, ← k5]; simpa using a4) (by simp), ?_, a5, a6⟩
        rw [show c.mu k = c'.mu _ from (congrArg Prod.fst a2).symm]
        exact .ref _ 0 _ none _ a3 hroom (by simp) (fun _ _ => by rw [a2]; exact hcp)
      · obtain ⟨cap2, rest, r1, r2, r3⟩ := append_grow (P := P) (ty := ty) O ht he hts hts2 ht2 hni h0 h1 u2 (by omega) k1 hbytes hnew hold
        obtain ⟨c1, d1, d2, d3, d4, d5⟩ := dead_sound H hk
        have ho : (o.cells.drop 0).take (len * o.esz) = o.cells := by rw [List.drop_zero, List.take_of_length_le (by omega)]
        rw [ho] at o1 o3
        have hb1 : base ≤ c1.w.heap.size := by rw [d2]; exact hb
        rw [← d2] at r3
        have hn : newK c1.h lvl slot (o.cells ++ ys) false o.esz o.eagg = (_, _) := rfl
        obtain ⟨v, c2, q1, q2, q3, q4, q5⟩ := grown_made P d4 hb1 hn (d5.rvs H o1) (d5.rvs H u1) o3 hys' (need := len + n) (by rw [k5, hyl, l2, Nat.add_mul]) r1 (by rw [r2, l2]) e r3
        refine ⟨_, _, rfl, v, c2, ?_, by rw [← d2]; exact q2, ?_, q4, d5.trans q5 H⟩
        · rw [q1, d1]
        · rw [d1] at q3; exact q3
  · cases h

end Ab
