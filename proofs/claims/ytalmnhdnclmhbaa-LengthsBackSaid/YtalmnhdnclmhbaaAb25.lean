/- A region whose order is open comes to what its text says: the proof. Own work, no conditions. -/
import Derived.Test.YtalmnhdnclmhbaaAb24
set_option linter.unusedVariables false
set_option linter.unusedSimpArgs false
namespace Ab
open Go

theorem with_drawn {base E n t tmps L c0} {c : Cx} (w : World) (hh : w.heap = c.w.heap) (h1 : w.os = c.w.os) (h2 : w.tape = c.w.tape) (h3 : w.output = c.w.output) (H : HR base c) (G : GOK E c) (F : FR c n t tmps) (X : ExtL L base c0 c) :
    HR base { c with w := w } ∧ GOK E { c with w := w } ∧ FR { c with w := w } n t tmps ∧ ExtL L base c0 { c with w := w } := by
  have X1 : ExtL L base c { c with w := w } := ⟨h1, h2, h3, by rw [hh]; exact Nat.le_refl _, fun b _ _ => by rw [hh], fun _ h => h, fun k _ h => ⟨h, rfl⟩, fun b h => .inl h, fun b h => .inl h⟩
  have rv : ∀ x v, RV c x v → RV { c with w := w } x v := fun x v hx => hx.mono (c := c) (c' := { c with w := w }) (fun b hb => ⟨hb, by rw [hh]⟩) fun k _ h => ⟨h, rfl⟩
  refine ⟨⟨?_, H.mt, H.sld, H.inj, fun b hb => by rw [hh]; exact H.rd b hb⟩, fun i cs hi => rv _ _ (G i cs hi), ⟨F.1, fun i v hi => rv _ _ (F.2 i v hi)⟩, X.trans X1⟩
  intro k o hk hl
  obtain ⟨arr, ee, fr, g1, g2, g3, g4, g4b, g5⟩ := H.obj k o hk hl
  refine ⟨arr, ee, fr, ?_, g2, g3, g4, g4b, fun i x hx => ?_⟩
  · rw [hh]; exact g1
  · obtain ⟨v, q1, q2, q3⟩ := g5 i x hx
    exact ⟨v, q1, rv _ _ q2, q3⟩

theorem filterMap_get {α} : ∀ (l : List α), (List.range l.length).filterMap (l[·]?) = l
  | [] => rfl
  | x :: l => by
    rw [List.length_cons, List.range_succ_eq_map, List.filterMap_cons]
    simp only [List.getElem?_cons_zero, List.filterMap_map, Function.comp_def, List.getElem?_cons_succ]
    rw [filterMap_get l]

theorem draw_sound {P E} (O : EnvOK P E) (hm : P.follows .mixedOrders = true) : DrawSound P E := by
  intro call K C base L lvl n ops l s0 s' c0 a0 id hl hd hrun H0 hb0 G0 hh0 F0 hde0
  refine wp_region_any hm ?_
  obtain ⟨g1, g2⟩ := eraseL_get hl
  have hlen : l.length = ops.size := by simpa using g1
  -- what 'drawOK' says
  have dr : ∀ j, j < ops.size → (∀ o, ops[j]? = some o → ∀ e ∈ o.after, Region.binds .any e = true → e.on < j) ∧ ∀ i, i < j → ((Region.before ops).getD j 0).testBit i = true ∨ ∃ x y, l[i]? = some x ∧ l[j]? = some y ∧ apart x y = true := by
    intro j hj
    unfold drawOK at hd
    have h1 := List.all_eq_true.1 hd j (List.mem_range.2 hj)
    rw [Bool.and_eq_true] at h1
    refine ⟨fun o ho e he hb => ?_, fun i hi => ?_⟩
    · have h2 := h1.1
      rw [ho] at h2
      simp only [Option.map_some, Option.getD_some] at h2
      have := Array.all_eq_true'.1 h2 e he
      rw [hb] at this
      simpa using this
    · have h2 := List.all_eq_true.1 h1.2 i (List.mem_range.2 hi)
      rw [Bool.or_eq_true] at h2
      refine h2.imp (fun h => h) fun h2 => ?_
      split at h2
      · rename_i x y e1 e2; exact ⟨x, y, e1, e2, h2⟩
      · cases h2
  -- the walk over what is left
  have main : ∀ fuel (listed : Array Bool) (s s'' : St) (c : Cx) (a : Act), listed.size = ops.size → fuel = (rest ops.size listed).length →
      (∀ j o, ops[j]? = some o → listed.getD j false = true → ∀ e ∈ o.after, Region.binds .any e = true → listed.getD e.on false = true) →
      aOps E (pureCall call) lvl n ((rest ops.size listed).filterMap (l[·]?)) s = some (.normal, s'') → Eqv s' s'' → HR base c → base ≤ c.w.heap.size → GOK E c → c.h = s.h → FR c n s.t a.tmps → a.defers = [] → ExtL L base c0 c →
      wpAny P .any ops (Post L base n c0 .normal s') fuel listed a c.w := by
    intro fuel
    induction fuel with
    | zero =>
      intro listed s s'' c a hsz hfu hdc hr he H hb G hh F hde X
      have hnil : rest ops.size listed = [] := List.eq_nil_of_length_eq_zero hfu.symm
      refine ⟨?_, ?_⟩
      · cases hrd : Region.ready .any ops listed with
        | nil => rfl
        | cons i r =>
          exfalso
          have hi : i ∈ Region.ready .any ops listed := by rw [hrd]; simp
          obtain ⟨q1, q2, _⟩ := ready_mem.1 hi
          have : i ∈ rest ops.size listed := by unfold rest; rw [List.mem_filter, List.mem_range]; exact ⟨q1, by rw [q2]; rfl⟩
          rw [hnil] at this; cases this
      · rw [hnil] at hr
        simp only [List.filterMap_nil, aOps, Option.some.injEq, Prod.mk.injEq, true_and] at hr
        subst hr
        obtain ⟨e1, e2, e3⟩ := eqv_ctx H s'.h fun k => by rw [hh]; exact (he.h k).symm
        refine ⟨{ c with h := s'.h }, rfl, rfl, e1, X.trans (e3 L), ⟨F.1, fun i v hi => e2 _ _ (F.2 i v ?_)⟩, hde, rfl⟩
        rw [he.t i]; exact hi
    | succ fuel ih =>
      intro listed s s'' c a hsz hfu hdc hr he H hb G hh F hde X
      have conc : Conc E base n s := ⟨c, a.tmps, H, hb, G, hh, F⟩
      refine ⟨fun hno => ?_, fun i hi => ?_⟩
      · -- the least of them is ready
        exfalso
        cases hrs : rest ops.size listed with
        | nil => rw [hrs] at hfu; simp at hfu
        | cons i r =>
          have hi : i ∈ rest ops.size listed := by rw [hrs]; simp
          unfold rest at hi
          rw [List.mem_filter, List.mem_range] at hi
          have hl0 : listed.getD i true = false := by simpa using hi.2
          obtain ⟨pre, post, p1, p2, _⟩ := rest_split hsz hi.1 hl0
          have hpre : pre = [] := by
            cases pre with
            | nil => rfl
            | cons k pre =>
              rw [hrs] at p1
              simp only [List.cons_append, List.cons.injEq] at p1
              have := (p2 k (by simp)).1
              omega
          have : i ∈ Region.ready .any ops listed := ready_mem.2 ⟨hi.1, hl0, ops[i]'hi.1, by simp [hi.1], fun e he hb => by
            have hlt := (dr i hi.1).1 _ (by simp [hi.1]) e he hb
            have hnot : listed.getD e.on true ≠ false := fun hf => by
              obtain ⟨pre', post', p1', p2', _⟩ := rest_split hsz (by omega : e.on < ops.size) hf
              rw [hrs] at p1'
              cases pre' with
              | nil => simp only [List.nil_append, List.cons.injEq] at p1'; omega
              | cons k pre' =>
                simp only [List.cons_append, List.cons.injEq] at p1'
                have := (p2' k (by simp)).1
                omega
            rw [getD_ft (by omega)] at hnot
            simpa using hnot⟩
          rw [hno] at this; cases this
      · obtain ⟨q1, q2, oi, q3, q4⟩ := ready_mem.1 hi
        obtain ⟨pre, post, p1, p2, p3⟩ := rest_split hsz q1 q2
        -- nothing left before it names it
        have noanc : ∀ j, j < ops.size → (∀ o, ops[j]? = some o → ∀ e ∈ o.after, Region.binds .any e = true → listed.getD e.on false = true) → ∀ k, ((Region.before ops).getD j 0).testBit k = true → listed.getD k false = true := by
          intro j
          induction j using Nat.strongRecOn with
          | _ j ihj =>
            intro hj hcl k hk
            obtain ⟨o, b1, e, b2, b3, b4⟩ := before_bit ops hk
            rcases b4 with b4 | b4
            · rw [← b4]; exact hcl o b1 e b2 b3
            · have hlt := (dr j hj).1 o b1 e b2 b3
              exact ihj e.on hlt (by omega) (fun o' ho' => hdc e.on o' ho' (hcl o b1 e b2 b3)) k b4
        obtain ⟨_, x, _, hx, hex⟩ := g2 i (by simpa using q1)
        have hrun := hr
        rw [p1, List.filterMap_append, List.filterMap_cons, hx] at hrun
        obtain ⟨s2, r1, r2⟩ := front O K C conc (fun y hy => by
          obtain ⟨k, hk, hky⟩ := List.mem_filterMap.1 hy
          obtain ⟨k1, k2⟩ := p2 k hk
          rcases (dr i q1).2 k k1 with hb | ⟨x', y', e1, e2, e3⟩
          · have := noanc i q1 (fun o ho => by rw [q3] at ho; cases ho; exact q4) k hb
            rw [getD_tf k2] at this; cases this
          · rw [hx] at e2; cases e2
            rw [hky] at e1; cases e1
            exact e3) hrun
        obtain ⟨s1, r3, r4⟩ := aOps_cons.1 r1
        rw [← List.filterMap_append, ← p3] at r4
        -- one step
        have hst : aOps E (pureCall call) lvl n [x] s = some (.normal, s1) := aOps_cons.2 ⟨s1, r3, rfl⟩
        have one := aOps_sound O (pureCall_ok K) (base := base) (L := L) (ops := ops) [i] [oi] [x] s .normal s1 c c a (by simp [q3]) (fun j hj => by
          have : j = 0 := by simpa using hj
          subst this
          obtain ⟨o, o', e1, e2, e3⟩ := g2 i (by simpa using q1)
          refine ⟨oi, x, rfl, rfl, ?_⟩
          rw [hx] at e2; cases e2
          have : o = oi := by simpa [q3] using e1.symm
          rw [← this]; exact e3) rfl hst H hb G hh F hde (.refl _ _ _)
        rw [wpOps_cons] at one
        refine wpOp_both ?_ ?_ one
        · rintro a1 w1 ⟨c1, rfl, t2, t3, t4, t5, t6, t7⟩
          refine ih (listed.setIfInBounds i true) s1 s2 c1 a1 (by simpa using hsz) ?_ ?_ r4 (he.trans r2) t3 (Nat.le_trans hb t4.size) (G.extL t4 H) t2 t5 t6 (X.trans t4)
          · rw [p3]; rw [p1] at hfu; simp at hfu ⊢; omega
          · intro j o hj hlj e hee hbb
            rw [getD_set _ (by omega)] at hlj ⊢
            split
            · rfl
            · split at hlj
              · rename_i e0; subst e0; rw [q3] at hj; cases hj; exact q4 e hee hbb
              · exact hdc j o hj hlj e hee hbb
        · rintro e a1 w1 hne ⟨c1, _, _, _, _, _, _, t7⟩
          exact absurd t7 hne
  obtain ⟨H1, G1, F1, X1⟩ := with_drawn { c0.w with drawn := c0.w.drawn + 1 } rfl rfl rfl rfl H0 G0 F0 (ExtL.refl L base c0)
  have hrest : rest ops.size (Array.replicate ops.size false) = List.range ops.size := by
    unfold rest
    rw [List.filter_eq_self]
    intro k hk
    simp [Array.getD_eq_getD_getElem?, List.mem_range.1 hk]
  refine main ops.size (Array.replicate ops.size false) s0 s' { c0 with w := { c0.w with drawn := c0.w.drawn + 1 } } a0 (by simp) (by rw [hrest]; simp) ?_ ?_ (.refl _) H1 hb0 G1 hh0 F1 hde0 X1
  · intro j o _ h
    rw [Array.getD_eq_getD_getElem?, Array.getElem?_replicate] at h
    split at h <;> simp at h
  · rw [hrest, ← hlen, filterMap_get]; exact hrun

end Ab
