/- A region whose order is open comes to what its text says: the proof. Own work, no conditions. -/
import Derived.Test.YtbgmkcmailcciaaDoorB24
set_option linter.unusedVariables false
set_option linter.unusedSimpArgs false
namespace Ab
open Go

theorem with_drawn {base E n t tmps L c0} {c : Cx} (w : World) (hh : w.heap = c.w.heap) (h1 : w.os = c.w.os) (h2 : w.tape = c.w.tape) (h3 : w.output = c.w.output) (H : HR base c) (G : GOK E c) (F : FR c n t tmps) (X : ExtL L base c0 c) :
    HR base { c with w := w } ∧ GOK E { c with w := w } ∧ FR { c with w := w } n t tmps ∧ ExtL L base c0 { c with w := w } := by
  have X1 : ExtL L base c { c with w := w } := ⟨h1, h2, h3, by rw [hh]; exact Nat.le_refl _, fun b _ _ => by rw [hh], fun _ h => h, fun k _ h => ⟨h, rfl⟩, fun b h => .inl h, fun b h => .inl h⟩
  have rv : ∀ x v, RV c x v → RV { c with w := w } x v := fun x v hx => hx.mono (c := c) (c' := { c with w := w }) (fun b hb => ⟨hb, by rw [hh]⟩) fun k _ h => ⟨h, rfl⟩
  refine ⟨⟨?_, H.mt, H.sld, H.inj, fun b hb => by rw [hh]; exact H.rd b hb⟩, fun i cs hi => rv _ _ (G i cs hi), ⟨F.1, fun i v hi => rv _ _ (F.2 i v hi)⟩, X.trans X1⟩
  intro k o hk hl
  obtain ⟨arr, ee, fr, g1, g2, g3, g4, g4b, g5⟩ := H.obj k o hk hl
  refine ⟨arr, ee, fr, ?_, g2, g3, g4, g4b, fun i x hx => ?_⟩
  · rw [hh]; exact g1
  · obtain ⟨v, q1, q2, q3⟩ := g5 i x hx
    exact ⟨v, q1, rv _ _ q2, q3⟩

theorem filterMap_get {α} : ∀ (l : List α), (List.range l.length).filterMap (l[·]?) = l
  | [] => rfl
  | x :: l => by
    rw [List.length_cons, List.range_succ_eq_map, List.filterMap_cons]
    simp only [List.getElem?_cons_zero, List.filterMap_map, Function.comp_def, List.getElem?_cons_succ]
    rw [filterMap_get l]

theorem range'_get {α} (l : List α) : ∀ (n k : Nat), k + n ≤ l.length → (List.range' k n).filterMap (l[·]?) = (l.drop k).take n
  | 0, k, h => by simp
  | n + 1, k, h => by
    rw [List.range'_succ, List.filterMap_cons]
    have hk : k < l.length := by omega
    have e : l[k]? = some (l[k]'hk) := by simp
    rw [e]
    simp only
    rw [range'_get l n (k + 1) (by omega), List.drop_eq_getElem_cons hk, List.take_succ_cons]

theorem no_anc {ops : Array Oper} {listed : Array Bool} (edges : ∀ j o, ops[j]? = some o → ∀ e ∈ o.after, Region.binds .any e = true → e.on < j)
    (hdc : ∀ j o, ops[j]? = some o → listed.getD j false = true → ∀ e ∈ o.after, Region.binds .any e = true → listed.getD e.on false = true) :
    ∀ j, j < ops.size → (∀ o, ops[j]? = some o → ∀ e ∈ o.after, Region.binds .any e = true → listed.getD e.on false = true) → ∀ k, ((Region.before ops).getD j 0).testBit k = true → listed.getD k false = true := by
  intro j
  induction j using Nat.strongRecOn with
  | _ j ihj =>
    intro hj hcl k hk
    obtain ⟨o, b1, e, b2, b3, b4⟩ := before_bit ops hk
    rcases b4 with b4 | b4
    · rw [← b4]; exact hcl o b1 e b2 b3
    · have hlt := edges j o b1 e b2 b3
      exact ihj e.on hlt (by omega) (fun o' ho' => hdc e.on o' ho' (hcl o b1 e b2 b3)) k b4

/-- A stretch of operations whose order is open, up to where all others wait. -/
theorem walk {P E} (O : EnvOK P E) {call : CallF} (K : CallOK P E call) (C : CP call) {Ds : List Deferred} {base L lvl n : Nat} {ops : Array Oper} {l : List Oper} (hl : eraseL ops ops.toList = some l) {top : Nat} (htop : top ≤ ops.size) {fs : Nat → List Key}
    (edges : ∀ j o, ops[j]? = some o → ∀ e ∈ o.after, Region.binds .any e = true → e.on < j)
    (dr : ∀ i j, i < j → j < top → ((Region.before ops).getD j 0).testBit i = true ∨ ∃ x y, l[i]? = some x ∧ l[j]? = some y ∧ apartN x y = true ∧ (ClsP x y ∨ ∀ k ∈ fs i, k ∉ fs j))
    (blk : ∀ j, top ≤ j → j < ops.size → (∀ i, i < top → ((Region.before ops).getD j 0).testBit i = true) ∨ ∃ q, top ≤ q ∧ ((Region.before ops).getD j 0).testBit q = true) {s' : St} {c0 : Cx} {Q : Exit → Act → World → Prop}
    (fin : ∀ (listed : Array Bool) (s : St) (c : Cx) (a : Act), listed.size = ops.size → (∀ j, j < top → listed.getD j false = true) → (∀ j, top ≤ j → listed.getD j false = false) → (∀ j o, ops[j]? = some o → listed.getD j false = true → ∀ e ∈ o.after, Region.binds .any e = true → listed.getD e.on false = true) →
      Eqv s' s → HR base c → base ≤ c.w.heap.size → GOK E c → c.h = s.h → FR c n s.t a.tmps → a.defers = Ds → ExtL L base c0 c → wpAny P .any ops Q (ops.size - top) listed a c.w) :
    ∀ m (listed : Array Bool) (s s'' : St) (c : Cx) (a : Act), listed.size = ops.size → m = (rest top listed).length → (∀ j, top ≤ j → listed.getD j false = false) →
      (∀ j o, ops[j]? = some o → listed.getD j false = true → ∀ e ∈ o.after, Region.binds .any e = true → listed.getD e.on false = true) →
      aOps E call lvl n ((rest top listed).filterMap (l[·]?)) s = some (.normal, s'') → footL E call lvl n ((rest top listed).filterMap (l[·]?)) s = some ((rest top listed).map fs) → Eqv s' s'' → HR base c → base ≤ c.w.heap.size → GOK E c → c.h = s.h → FR c n s.t a.tmps → a.defers = Ds → ExtL L base c0 c →
      wpAny P .any ops Q (m + (ops.size - top)) listed a c.w := by
  obtain ⟨g1, g2⟩ := eraseL_get hl
  have hlen : l.length = ops.size := by simpa using g1
  intro m
  induction m with
  | zero =>
    intro listed s s'' c a hsz hfu hun hdc hr hft he H hb G hh F hde X
    have hnil : rest top listed = [] := List.eq_nil_of_length_eq_zero hfu.symm
    rw [Nat.zero_add]
    rw [hnil] at hr
    simp only [List.filterMap_nil, aOps, Option.some.injEq, Prod.mk.injEq, true_and] at hr
    subst hr
    refine fin listed s c a hsz (fun j hj => ?_) hun hdc he H hb G hh F hde X
    cases hlj : listed.getD j false with
    | true => rfl
    | false =>
      exfalso
      have : j ∈ rest top listed := by
        unfold rest; rw [List.mem_filter, List.mem_range]
        refine ⟨hj, ?_⟩
        rw [getD_ft (by omega), hlj]; rfl
      rw [hnil] at this; cases this
  | succ m ih =>
    intro listed s s'' c a hsz hfu hun hdc hr hft he H hb G hh F hde X
    rw [show m + 1 + (ops.size - top) = m + (ops.size - top) + 1 by omega]
    have conc : Conc E base n s := ⟨c, a.tmps, H, hb, G, hh, F⟩
    refine ⟨fun hno => ?_, fun i hi => ?_⟩
    · -- the least of them is ready
      exfalso
      cases hrs : rest top listed with
      | nil => rw [hrs] at hfu; simp at hfu
      | cons i r =>
        have hi : i ∈ rest top listed := by rw [hrs]; simp
        unfold rest at hi
        rw [List.mem_filter, List.mem_range] at hi
        have hl0 : listed.getD i true = false := by simpa using hi.2
        obtain ⟨pre, post, p1, p2, _⟩ := rest_split (n := top) (by omega) hi.1 hl0
        have hpre : pre = [] := by
          cases pre with
          | nil => rfl
          | cons k pre =>
            rw [hrs] at p1
            simp only [List.cons_append, List.cons.injEq] at p1
            have := (p2 k (by simp)).1
            omega
        have : i ∈ Region.ready .any ops listed := ready_mem.2 ⟨by omega, hl0, ops[i]'(by omega), by simp, fun e he hb => by
          have hlt := edges i _ (by simp) e he hb
          have hnot : listed.getD e.on true ≠ false := fun hf => by
            obtain ⟨pre', post', p1', p2', _⟩ := rest_split (n := top) (by omega) (by omega : e.on < top) hf
            rw [hrs] at p1'
            cases pre' with
            | nil => simp only [List.nil_append, List.cons.injEq] at p1'; omega
            | cons k pre' =>
              simp only [List.cons_append, List.cons.injEq] at p1'
              have := (p2' k (by simp)).1
              omega
          rw [getD_ft (by omega)] at hnot
          simpa using hnot⟩
        rw [hno] at this; cases this
    · obtain ⟨q1, q2, oi, q3, q4⟩ := ready_mem.1 hi
      -- nothing left before it names it
      have noanc : ∀ j, j < ops.size → (∀ o, ops[j]? = some o → ∀ e ∈ o.after, Region.binds .any e = true → listed.getD e.on false = true) → ∀ k, ((Region.before ops).getD j 0).testBit k = true → listed.getD k false = true := by
        intro j
        induction j using Nat.strongRecOn with
        | _ j ihj =>
          intro hj hcl k hk
          obtain ⟨o, b1, e, b2, b3, b4⟩ := before_bit ops hk
          rcases b4 with b4 | b4
          · rw [← b4]; exact hcl o b1 e b2 b3
          · have hlt := edges j o b1 e b2 b3
            exact ihj e.on hlt (by omega) (fun o' ho' => hdc e.on o' ho' (hcl o b1 e b2 b3)) k b4
      -- it is one of this stretch
      have hit : i < top := by
        cases Nat.lt_or_ge i top with
        | inl h => exact h
        | inr h =>
          exfalso
          cases hrs : rest top listed with
          | nil => rw [hrs] at hfu; simp at hfu
          | cons k r =>
            have hk : k ∈ rest top listed := by rw [hrs]; simp
            unfold rest at hk
            rw [List.mem_filter, List.mem_range] at hk
            rcases blk i h q1 with hb2 | ⟨q, hq, hb2⟩
            · have h1 := noanc i q1 (fun o ho => by rw [q3] at ho; cases ho; exact q4) k (hb2 k hk.1)
              have h2 : listed.getD k true = false := by simpa using hk.2
              rw [getD_tf h2] at h1; cases h1
            · have h1 := noanc i q1 (fun o ho => by rw [q3] at ho; cases ho; exact q4) q hb2
              rw [hun q hq] at h1; cases h1
      obtain ⟨pre, post, p1, p2, p3⟩ := rest_split (n := top) (by omega) hit q2
      obtain ⟨_, x, _, hx, hex⟩ := g2 i (by simpa using q1)
      have hrun := hr
      rw [p1, List.filterMap_append, List.filterMap_cons, hx] at hrun
      have hil : i < l.length := by omega
      have hfrun := hft
      rw [p1, List.filterMap_append, List.filterMap_cons, hx, List.map_append, List.map_cons] at hfrun
      have hpz : ∀ q : List Nat, (∀ k ∈ q, k < i) → (q.map fs).length = (q.filterMap (l[·]?)).length ∧ ∀ p ∈ (q.filterMap (l[·]?)).zip (q.map fs), ∃ k ∈ q, l[k]? = some p.1 ∧ fs k = p.2 := by
        intro q
        induction q with
        | nil => intro _; exact ⟨rfl, fun p hp => by simp at hp⟩
        | cons k q ihq =>
          intro hq
          obtain ⟨i1, i2⟩ := ihq fun y hy => hq y (by simp [hy])
          have hk1 : k < i := hq k (by simp)
          have hk : k < l.length := by omega
          have e1 : l[k]? = some (l[k]'hk) := by simp
          have f1 : (k :: q).filterMap (l[·]?) = l[k]'hk :: q.filterMap (l[·]?) := by rw [List.filterMap_cons, e1]
          rw [f1, List.map_cons]
          refine ⟨by simp [i1], fun p hp => ?_⟩
          rw [List.zip_cons_cons] at hp
          rcases List.mem_cons.1 hp with rfl | hp
          · exact ⟨k, by simp, e1, rfl⟩
          · obtain ⟨k', h1, h2⟩ := i2 p hp
            exact ⟨k', by simp [h1], h2⟩
      obtain ⟨z1, z2⟩ := hpz pre fun k hk => (p2 k hk).1
      obtain ⟨s2, r1, r2, r5⟩ := front O K C conc z1 (fun p hp => by
        obtain ⟨k, hk, hky, hkf⟩ := z2 p hp
        obtain ⟨k1, k2⟩ := p2 k hk
        rcases dr k i k1 hit with hb | ⟨x', y', e1, e2, e3, e4⟩
        · have := noanc i q1 (fun o ho => by rw [q3] at ho; cases ho; exact q4) k hb
          rw [getD_tf k2] at this; cases this
        · rw [hx] at e2; cases e2
          rw [hky] at e1; cases e1
          refine ⟨e3, e4.imp (fun z => z) fun hm => ?_⟩
          rw [← hkf]; exact hm) hrun hfrun
      obtain ⟨s1, r3, r4⟩ := aOps_cons.1 r1
      rw [← List.filterMap_append, ← p3] at r4
      obtain ⟨s1', l2, u1, u2, u3⟩ := footL_cons.1 r5
      rw [r3] at u1; cases u1
      simp only [List.cons.injEq] at u3
      rw [← u3.2, ← List.filterMap_append, ← List.map_append, ← p3] at u2
      -- one step
      have hst : aOps E call lvl n [x] s = some (.normal, s1) := aOps_cons.2 ⟨s1, r3, rfl⟩
      have one := aOps_sound O K (base := base) (L := L) (ops := ops) [i] [oi] [x] s .normal s1 c c a (by simp [q3]) (fun j hj => by
        have : j = 0 := by simpa using hj
        subst this
        obtain ⟨o, o', e1, e2, e3⟩ := g2 i (by simpa using q1)
        refine ⟨oi, x, rfl, rfl, ?_⟩
        rw [hx] at e2; cases e2
        have : o = oi := by simpa [q3] using e1.symm
        rw [← this]; exact e3) rfl hst H hb G hh F hde (.refl _ _ _)
      rw [wpOps_cons] at one
      refine wpOp_both ?_ ?_ one
      · rintro a1 w1 ⟨c1, rfl, t2, t3, t4, t5, t6, t7⟩
        refine ih (listed.setIfInBounds i true) s1 s2 c1 a1 (by simpa using hsz) ?_ (fun j hj => by rw [getD_set _ (by omega), if_neg (by omega)]; exact hun j hj) ?_ r4 u2 (he.trans r2) t3 (Nat.le_trans hb t4.size) (G.extL t4 H) t2 t5 t6 (X.trans t4)
        · rw [p3]; rw [p1] at hfu; simp at hfu ⊢; omega
        · intro j o hj hlj e hee hbb
          rw [getD_set _ (by omega)] at hlj ⊢
          split
          · rfl
          · split at hlj
            · rename_i e0; subst e0; rw [q3] at hj; cases hj; exact q4 e hee hbb
            · exact hdc j o hj hlj e hee hbb
      · rintro e a1 w1 hne ⟨c1, _, _, _, _, _, _, t7⟩
        exact absurd t7 hne

theorem drawOK_eq {ops : Array Oper} {l ps} (hd : drawOK ops l ps = true) : (∀ k, barOf true ps = some k → barOK ops k = true) ∧ (∀ j o, ops[j]? = some o → ∀ e ∈ o.after, Region.binds .any e = true → e.on < j) ∧
    ∀ i j, i < j → j < ops.size → ((Region.before ops).getD j 0).testBit i = true ∨ ∃ x y, l[i]? = some x ∧ l[j]? = some y ∧ apartN x y = true ∧ (ClsP x y ∨ (i, j) ∈ ps) := by
  unfold drawOK at hd
  simp only [Bool.and_eq_true] at hd
  obtain ⟨h0, hd⟩ := hd
  refine ⟨fun k hk => by rw [hk] at h0; exact h0, fun j o ho e he hb => ?_, fun i j hi hj => ?_⟩
  · have hj : j < ops.size := (Array.getElem?_eq_some_iff.1 ho).1
    have h1 := List.all_eq_true.1 hd j (List.mem_range.2 hj)
    rw [Bool.and_eq_true] at h1
    have h2 := h1.1
    rw [ho] at h2
    simp only [Option.map_some, Option.getD_some] at h2
    have := Array.all_eq_true'.1 h2 e he
    rw [hb] at this
    simpa using this
  · have h1 := List.all_eq_true.1 hd j (List.mem_range.2 hj)
    rw [Bool.and_eq_true] at h1
    have h2 := List.all_eq_true.1 h1.2 i (List.mem_range.2 hi)
    rw [Bool.or_eq_true] at h2
    refine h2.imp (fun h => h) fun h2 => ?_
    split at h2
    · rename_i x y e1 e2
      rw [Bool.or_eq_true] at h2
      rcases h2 with h2 | h2
      · exact ⟨x, y, e1, e2, apart_N h2, .inl (apart_P h2)⟩
      · rw [Bool.and_eq_true] at h2
        refine ⟨x, y, e1, e2, h2.1, .inr ?_⟩
        obtain ⟨p, hp, hp2⟩ := List.any_eq_true.1 h2.2
        simp only [Bool.and_eq_true, beq_iff_eq] at hp2
        obtain ⟨a, b⟩ := p
        simp only at hp2
        rw [← hp2.1, ← hp2.2]; exact hp
    · cases h2

theorem rest_none (n m : Nat) : rest n (Array.replicate m false) = (List.range n).filter fun i => decide (i < m) := by
  unfold rest
  apply List.filter_congr
  intro k hk
  rw [Array.getD_eq_getD_getElem?, Array.getElem?_replicate]
  split
  · rename_i h; simp [h]
  · rename_i h; simp [h]

theorem end_any {P E base n L Ds} {ops : Array Oper} {c0 : Cx} {s' : St} {listed : Array Bool} {s : St} {c : Cx} {a : Act} (hsz : listed.size = ops.size) (hall : ∀ j, j < ops.size → listed.getD j false = true) (he : Eqv s' s) (H : HR base c) (G : GOK E c) (hh : c.h = s.h) (F : FR c n s.t a.tmps) (hde : a.defers = Ds) (X : ExtL L base c0 c) :
    wpAny P .any ops (Post Ds L base n c0 .normal s') 0 listed a c.w := by
  refine ⟨?_, ?_⟩
  · cases hrd : Region.ready .any ops listed with
    | nil => rfl
    | cons i r =>
      exfalso
      have hi : i ∈ Region.ready .any ops listed := by rw [hrd]; simp
      obtain ⟨q1, q2, _⟩ := ready_mem.1 hi
      have := hall i q1
      rw [getD_tf q2] at this; cases this
  · obtain ⟨e1, e2, e3⟩ := eqv_ctx H s'.h fun k => by rw [hh]; exact (he.h k).symm
    refine ⟨{ c with h := s'.h }, rfl, rfl, e1, X.trans (e3 L), ⟨F.1, fun i v hi => e2 _ _ (F.2 i v ?_)⟩, hde, rfl⟩
    rw [he.t i]; exact hi

theorem draw_plain {P E} (O : EnvOK P E) (hm : P.follows .mixedOrders = true) : ∀ (Ds : List Deferred) (call : CallF) (_ : CallOK P E call) (_ : CP call) (base L lvl n : Nat) (ops : Array Oper) (l : List Oper) (ps : List (Nat × Nat)) (s : St) (s' : St) (c : Cx) (a : Act) (id : Nat),
    eraseL ops ops.toList = some l → drawOK ops l ps = true → aOps E call lvl n l s = some (.normal, s') → dynChk E call lvl n l s ps = true → HR base c → base ≤ c.w.heap.size → GOK E c → c.h = s.h → FR c n s.t a.tmps → a.defers = Ds →
    (Code.region id ops true).wp P (Post Ds L base n c .normal s') a c.w := by
  intro Ds call K C base L lvl n ops l ps s0 s' c0 a0 id hl hd hrun hdyn H0 hb0 G0 hh0 F0 hde0
  refine wp_region_any hm ?_
  obtain ⟨g1, g2⟩ := eraseL_get hl
  have hlen : l.length = ops.size := by simpa using g1
  obtain ⟨_, edges, dr⟩ := drawOK_eq hd
  obtain ⟨fs, hfs, hfl⟩ := foot_total hrun
  have hdis : ∀ i j, (i, j) ∈ ps → ∀ k ∈ (fs[i]?).getD [], k ∉ (fs[j]?).getD [] := by
    cases ps with
    | nil => intro i j h; cases h
    | cons p r =>
      simp only [dynChk, hfs] at hdyn
      intro i j hm
      have : ∀ (q : List (Nat × Nat)), dynOK fs q = true → (i, j) ∈ q → ∃ a b, fs[i]? = some a ∧ fs[j]? = some b ∧ ∀ k ∈ a, k ∉ b := by
        intro q
        induction q with
        | nil => intro _ h; cases h
        | cons y q ih =>
          intro hq hmm
          obtain ⟨y1, y2⟩ := y
          simp only [dynOK, Bool.and_eq_true] at hq
          rcases List.mem_cons.1 hmm with e | hmm
          · cases e
            have h1 := hq.1
            split at h1
            · rename_i a b e1 e2
              refine ⟨a, b, e1, e2, fun k hk hkb => ?_⟩
              have := List.all_eq_true.1 h1 k hk
              rw [inKs_of hkb] at this; cases this
            · cases h1
          · exact ih hq.2 hmm
      obtain ⟨a, b, e1, e2, e3⟩ := this _ hdyn hm
      rw [e1, e2]; exact e3
  obtain ⟨H1, G1, F1, X1⟩ := with_drawn { c0.w with drawn := c0.w.drawn + 1 } rfl rfl rfl rfl H0 G0 F0 (ExtL.refl L base c0)
  have hrest : rest ops.size (Array.replicate ops.size false) = List.range ops.size := by
    rw [rest_none, List.filter_eq_self]
    intro k hk
    simpa using hk
  have key := walk O K C (Ds := Ds) (base := base) (L := L) (lvl := lvl) (n := n) hl (top := ops.size) (Nat.le_refl _) (fs := fun i => (fs[i]?).getD []) edges
    (fun i j hi hj => (dr i j hi hj).imp (fun z => z) fun ⟨x, y, e1, e2, e3, e4⟩ => ⟨x, y, e1, e2, e3, e4.imp (fun z => z) fun h => hdis i j h⟩)
    (fun j h1 h2 => by omega) (s' := s') (c0 := c0) (Q := Post Ds L base n c0 .normal s')
    (fun listed s c a hsz hall _ _ he H hb G hh F hde X => by rw [Nat.sub_self]; exact end_any hsz hall he H G hh F hde X)
    ops.size (Array.replicate ops.size false) s0 s' { c0 with w := { c0.w with drawn := c0.w.drawn + 1 } } a0 (by simp) (by rw [hrest]; simp)
  rw [Nat.sub_self, Nat.add_zero] at key
  refine key ?_ ?_ ?_ ?_ (.refl _) H1 hb0 G1 hh0 F1 hde0 X1
  · intro j hj
    rw [Array.getD_eq_getD_getElem?, Array.getElem?_replicate, if_neg (by omega)]; rfl
  · intro j o _ h
    rw [Array.getD_eq_getD_getElem?, Array.getElem?_replicate] at h
    split at h <;> simp at h
  · rw [hrest, ← hlen, filterMap_get]; exact hrun
  · rw [hrest, ← hlen, filterMap_get, hfs]
    congr 1
    apply List.ext_getElem?
    intro i
    rw [List.getElem?_map]
    by_cases hi : i < l.length
    · rw [List.getElem?_range hi]
      have : i < fs.length := by omega
      simp [this]
    · rw [List.getElem?_eq_none (show fs.length ≤ i by omega), List.getElem?_eq_none (show (List.range l.length).length ≤ i by simpa using hi)]; rfl

theorem bindS_some {x : Option (AExit × St)} {f r} (h : bindS x f = some r) : ∃ s, x = some (.normal, s) ∧ f s = some r := by
  unfold bindS at h
  split at h
  · exact ⟨_, rfl, h⟩
  · cases h
theorem rest_upto {n k : Nat} {listed : Array Bool} (hs : n ≤ listed.size) (hk : k ≤ n) (h1 : ∀ j, j < k → listed.getD j false = true) (h2 : ∀ j, k ≤ j → listed.getD j false = false) : rest n listed = List.range' k (n - k) := by
  unfold rest
  have e : List.range n = List.range' 0 k ++ List.range' k (n - k) := by
    rw [List.range_eq_range']
    have : n = k + (n - k) := by omega
    conv => lhs; rw [this, ← List.range'_append_1]
    simp
  rw [e, List.filter_append]
  have a1 : (List.range' 0 k).filter (fun i => !listed.getD i true) = [] := by
    rw [List.filter_eq_nil_iff]
    intro j hj
    rw [List.mem_range'_1] at hj
    rw [getD_ft (by omega), h1 j (by omega)]; simp
  have a2 : (List.range' k (n - k)).filter (fun i => !listed.getD i true) = List.range' k (n - k) := by
    rw [List.filter_eq_self]
    intro j hj
    rw [List.mem_range'_1] at hj
    rw [getD_ft (by omega), h2 j (by omega)]; rfl
  rw [a1, a2]; rfl

theorem draw_bar {P E} (O : EnvOK P E) (hm : P.follows .mixedOrders = true) : ∀ (Ds : List Deferred) (call sc : CallF) (_ : CallOK P E call) (_ : CallOK P E sc) (_ : CP sc) (base L lvl n : Nat) (ops : Array Oper) (l : List Oper) (ps : List (Nat × Nat)) (k : Nat) (s : St) (s' : St) (c : Cx) (a : Act) (id : Nat),
    eraseL ops ops.toList = some l → drawOK ops l ps = true → barOf true ps = some k → barX E call sc lvl n l k s = some (.normal, s') → HR base c → base ≤ c.w.heap.size → GOK E c → c.h = s.h → FR c n s.t a.tmps → a.defers = Ds →
    (Code.region id ops true).wp P (Post Ds L base n c .normal s') a c.w := by
  intro Ds call sc KC K C base L lvl n ops l ps k s0 s' c0 a0 id hl hd hbar hx H0 hb0 G0 hh0 F0 hde0
  refine wp_region_any hm ?_
  obtain ⟨g1, g2⟩ := eraseL_get hl
  have hlen : l.length = ops.size := by simpa using g1
  obtain ⟨hbo, edges, dr⟩ := drawOK_eq hd
  have hbk := hbo k hbar
  unfold barOK at hbk
  simp only [Bool.and_eq_true, decide_eq_true_eq] at hbk
  obtain ⟨⟨hk, hbefore⟩, hafter⟩ := hbk
  have bef : ∀ i, i < k → ((Region.before ops).getD k 0).testBit i = true := fun i hi => List.all_eq_true.1 hbefore i (List.mem_range.2 hi)
  have aft : ∀ j, k < j → j < ops.size → ((Region.before ops).getD j 0).testBit k = true := fun j hj hj2 => by
    have := List.all_eq_true.1 hafter j (List.mem_range.2 hj2)
    rw [Bool.or_eq_true] at this
    rcases this with h | h
    · have : j ≤ k := by simpa using h
      omega
    · exact h
  have hps : ∀ i j, i < j → (i, j) ∈ ps → False := by
    intro i j hij hmem
    unfold barOf at hbar
    split at hbar
    · rename_i p q
      split at hbar
      · rename_i hpq
        simp only [List.mem_singleton, Prod.mk.injEq] at hmem
        omega
      · cases hbar
    · cases hbar
  have dr' : ∀ (fs : Nat → List Key) i j, i < j → j < ops.size → ((Region.before ops).getD j 0).testBit i = true ∨ ∃ x y, l[i]? = some x ∧ l[j]? = some y ∧ apartN x y = true ∧ (ClsP x y ∨ ∀ k ∈ fs i, k ∉ fs j) := fun fs i j hi hj =>
    (dr i j hi hj).imp (fun z => z) fun ⟨x, y, e1, e2, e3, e4⟩ => ⟨x, y, e1, e2, e3, e4.imp (fun z => z) fun h => (hps i j hi h).elim⟩
  unfold barX at hx
  obtain ⟨s1, r1, hx⟩ := bindS_some hx
  obtain ⟨s2, r2, hx⟩ := bindS_some hx
  obtain ⟨s3, r3, hx⟩ := bindS_some hx
  simp only [Option.some.injEq, Prod.mk.injEq, true_and] at hx
  subst hx
  obtain ⟨f1, hf1, hl1⟩ := foot_total r1
  obtain ⟨f2, hf2, hl2⟩ := foot_total r3
  obtain ⟨H1, G1, F1, X1⟩ := with_drawn { c0.w with drawn := c0.w.drawn + 1 } rfl rfl rfl rfl H0 G0 F0 (ExtL.refl L base c0)
  have hrest : rest k (Array.replicate ops.size false) = List.range k := by
    rw [rest_none, List.filter_eq_self]
    intro i hi
    have := List.mem_range.1 hi
    simp; omega
  have hmapf : ∀ (f : List (List Key)) (m o : Nat), f.length = m → (List.range' o m).map (fun i => (f[i - o]?).getD []) = f := by
    intro f m o hfm
    apply List.ext_getElem?
    intro i
    rw [List.getElem?_map]
    by_cases hi : i < m
    · rw [List.getElem?_range' hi]
      have : i < f.length := by omega
      simp [this]
    · rw [List.getElem?_eq_none (show f.length ≤ i by omega), List.getElem?_eq_none (show (List.range' o m).length ≤ i by simpa using hi)]; rfl
  -- behind all that go before it
  have mid : ∀ (listed : Array Bool) (s : St) (c : Cx) (a : Act), listed.size = ops.size → (∀ j, j < k → listed.getD j false = true) → (∀ j, k ≤ j → listed.getD j false = false) → (∀ j o, ops[j]? = some o → listed.getD j false = true → ∀ e ∈ o.after, Region.binds .any e = true → listed.getD e.on false = true) →
      Eqv s1 s → HR base c → base ≤ c.w.heap.size → GOK E c → c.h = s.h → FR c n s.t a.tmps → a.defers = Ds → ExtL L base c0 c → wpAny P .any ops (Post Ds L base n c0 .normal s3) (ops.size - k) listed a c.w := by
    intro listed s c a hsz hall hun hdc he H hb G hh F hde X
    rw [show ops.size - k = ops.size - (k + 1) + 1 by omega]
    have hkl : listed.getD k true = false := by rw [getD_ft (by omega)]; exact hun k (Nat.le_refl _)
    refine ⟨fun hno => ?_, fun i hi => ?_⟩
    · exfalso
      have : k ∈ Region.ready .any ops listed := ready_mem.2 ⟨hk, hkl, ops[k], by simp, fun e hee hbb => hall _ (edges k _ (by simp) e hee hbb)⟩
      rw [hno] at this; cases this
    · obtain ⟨q1, q2, oi, q3, q4⟩ := ready_mem.1 hi
      have hik : i = k := by
        rcases Nat.lt_trichotomy i k with h | h | h
        · exfalso
          have := hall i h
          rw [getD_tf q2] at this; cases this
        · exact h
        · exfalso
          have := no_anc edges hdc i q1 (fun o ho => by rw [q3] at ho; cases ho; exact q4) k (aft i h q1)
          rw [hun k (Nat.le_refl _)] at this; cases this
      subst hik
      obtain ⟨e1, e2, e3⟩ := eqv_ctx H s1.h fun q => by rw [hh]; exact (he.h q).symm
      obtain ⟨o, x, ho, hxx, hex⟩ := g2 i (by simpa using q1)
      have hoi : o = oi := by simpa [q3] using ho.symm
      have hil : i < l.length := by omega
      have htake : (l.drop i).take 1 = [x] := by
        rw [List.drop_eq_getElem_cons hil]
        have : l[i]'hil = x := by
          have := hxx
          rw [List.getElem?_eq_getElem hil] at this
          exact Option.some.inj this
        simp [this]
      rw [htake] at r2
      have one := aOps_sound O KC (Ds := Ds) (base := base) (L := L) (ops := ops) [i] [oi] [x] s1 .normal s2 { c with h := s1.h } { c with h := s1.h } a (by simp [q3]) (fun j hj => by
        have : j = 0 := by simpa using hj
        subst this
        refine ⟨oi, x, rfl, rfl, ?_⟩
        rw [← hoi]; exact hex) rfl r2 e1 hb (fun g cs hg => e2 _ _ (G g cs hg)) rfl ⟨F.1, fun i v hi => e2 _ _ (F.2 i v (by rw [he.t i]; exact hi))⟩ hde (.refl _ _ _)
      rw [wpOps_cons] at one
      refine wpOp_both ?_ ?_ one
      · rintro a1 w1 ⟨c1, rfl, t2, t3, t4, t5, t6, t7⟩
        have X1' : ExtL L base c0 c1 := (X.trans (e3 L)).trans t4
        have hr2 : rest ops.size (listed.setIfInBounds i true) = List.range' (i + 1) (ops.size - (i + 1)) := by
          refine rest_upto (by simp; omega) (by omega) (fun j hj => ?_) (fun j hj => ?_)
          · rw [getD_set _ (by omega)]
            split
            · rfl
            · exact hall j (by omega)
          · rw [getD_set _ (by omega), if_neg (by omega)]; exact hun j (by omega)
        have key := walk O K C (Ds := Ds) (base := base) (L := L) (lvl := lvl) (n := n) hl (top := ops.size) (Nat.le_refl _) (fs := fun q => (f2[q - (i + 1)]?).getD []) edges
          (fun p q hp hq => dr' (fun q => (f2[q - (i + 1)]?).getD []) p q hp hq) (fun j h1 h2 => by omega) (s' := s3) (c0 := c0) (Q := Post Ds L base n c0 .normal s3)
          (fun listed s c a hsz hall _ _ he H hb G hh F hde X => by rw [Nat.sub_self]; exact end_any hsz hall he H G hh F hde X)
          (ops.size - (i + 1)) (listed.setIfInBounds i true) s2 s3 c1 a1 (by simpa using hsz) (by rw [hr2]; simp)
        rw [Nat.sub_self, Nat.add_zero] at key
        refine key (fun j hj => ?_) ?_ ?_ ?_ (.refl _) t3 (Nat.le_trans hb t4.size) (GOK.extL (E := E) (c := { c with h := s1.h }) (fun g cs hg => e2 _ _ (G g cs hg)) t4 e1) t2 t5 t6 X1'
        · rw [Array.getD_eq_getD_getElem?, Array.getElem?_eq_none (by simp; omega)]; rfl
        · intro j o hj hlj e hee hbb
          rw [getD_set _ (by omega)] at hlj ⊢
          split
          · rfl
          · split at hlj
            · rename_i e0; subst e0; rw [q3] at hj; cases hj; exact q4 e hee hbb
            · exact hdc j o hj hlj e hee hbb
        · rw [hr2, range'_get l _ _ (by omega), List.take_of_length_le (by rw [List.length_drop]; omega)]; exact r3
        · rw [hr2, range'_get l _ _ (by omega), List.take_of_length_le (by rw [List.length_drop]; omega), hf2, hmapf f2 _ _ (by rw [hl2, List.length_drop]; omega)]
      · rintro e a1 w1 hne ⟨c1, _, _, _, _, _, _, t7⟩
        exact absurd t7 hne
  have key := walk O K C (Ds := Ds) (base := base) (L := L) (lvl := lvl) (n := n) hl (top := k) (by omega) (fs := fun q => (f1[q - 0]?).getD []) edges
    (fun p q hp hq => dr' (fun q => (f1[q - 0]?).getD []) p q hp (by omega)) (fun j h1 h2 => by
      rcases Nat.lt_or_ge k j with h | h
      · exact .inr ⟨k, Nat.le_refl _, aft j h h2⟩
      · have : j = k := by omega
        subst this; exact .inl bef) (s' := s1) (c0 := c0) (Q := Post Ds L base n c0 .normal s3) mid
    k (Array.replicate ops.size false) s0 s1 { c0 with w := { c0.w with drawn := c0.w.drawn + 1 } } a0 (by simp) (by rw [hrest]; simp)
  rw [show k + (ops.size - k) = ops.size by omega] at key
  have htk : (List.range k).filterMap (l[·]?) = l.take k := by
    rw [List.range_eq_range', range'_get l k 0 (by omega)]; simp
  refine key ?_ ?_ ?_ ?_ (.refl _) H1 hb0 G1 hh0 F1 hde0 X1
  · intro j hj
    rw [Array.getD_eq_getD_getElem?, Array.getElem?_replicate]
    split <;> rfl
  · intro j o _ h
    rw [Array.getD_eq_getD_getElem?, Array.getElem?_replicate] at h
    split at h <;> simp at h
  · rw [hrest, htk]; exact r1
  · rw [hrest, htk, hf1, List.range_eq_range', hmapf f1 k 0 (by rw [hl1, List.length_take]; omega)]

theorem draw_sound {P E} (O : EnvOK P E) (hm : P.follows .mixedOrders = true) : DrawSound P E := ⟨draw_plain O hm, draw_bar O hm⟩

end Ab
