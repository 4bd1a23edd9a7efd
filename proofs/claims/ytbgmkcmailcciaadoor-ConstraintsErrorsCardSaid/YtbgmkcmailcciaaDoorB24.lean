/- A region whose order is open comes to what its text says. Own work, no conditions. -/
import Derived.Test.YtbgmkcmailcciaaDoorB23
import Derived.Orders
set_option linter.unusedVariables false
set_option linter.unusedSimpArgs false
namespace Ab
open Go

/-- Some memory stands behind a state. -/
def Conc (E : Env) (base n : Nat) (s : St) : Prop := ∃ c tmps, HR base c ∧ base ≤ c.w.heap.size ∧ GOK E c ∧ c.h = s.h ∧ FR c n s.t tmps

mutual
theorem RV.keys_there {c : Cx} : ∀ {x v}, RV c x v → ∀ k ∈ x.keys, c.Vk k
  | _, _, .int .., k, hk => by simp [AV.keys] at hk
  | _, _, .bool .., k, hk => by simp [AV.keys] at hk
  | _, _, .str .., k, hk => by simp [AV.keys] at hk
  | _, _, .agg _ _ h _, k, hk => RVs.keys_there h k hk
  | _, _, .tup _ _ h, k, hk => RVs.keys_there h k hk
  | _, _, .slE .., k, hk => by simp [AV.keys] at hk
  | _, _, .slC .., k, hk => by simp [AV.keys] at hk
  | _, _, .ref _ _ _ _ _ h .., k, hk => by simp [AV.keys] at hk; subst hk; exact h
  | _, _, .ptr _ _ h, k, hk => by simp [AV.keys] at hk; subst hk; exact h
  | _, _, .pel .., k, hk => by simp [AV.keys] at hk
  | _, _, .nilp, k, hk => by simp [AV.keys] at hk
  | _, _, .fn _ _ _ _ _ h1 h2, k, hk => by
    simp only [AV.keys, List.mem_append] at hk
    rcases hk with hk | hk
    · exact RVs.keys_there h1 k hk
    · exact RVs.keys_there h2 k hk
  | _, _, .nilf, k, hk => by simp [AV.keys] at hk
  | _, _, .iface _ _ _ h, k, hk => RV.keys_there h k hk
  | _, _, .nili, k, hk => by simp [AV.keys] at hk
theorem RVs.keys_there {c : Cx} : ∀ {xs vs}, RVs c xs vs → ∀ k ∈ AV.keysL xs, c.Vk k
  | _, _, .nil, k, hk => by simp [AV.keysL] at hk
  | _, _, .cons _ _ _ _ h1 h2, k, hk => by
    simp only [AV.keysL, List.mem_append] at hk
    rcases hk with hk | hk
    · exact RV.keys_there h1 k hk
    · exact RVs.keys_there h2 k hk
end

theorem Conc.wf {E base n s} (h : Conc E base n s) : Wf s := by
  obtain ⟨c, tmps, _, _, _, h4, h5⟩ := h
  intro i v hi k hk
  obtain ⟨o, ho⟩ := (h5.2 i v hi).keys_there k hk
  rw [← h4, ho]; rfl

theorem Conc.step {P E} (O : EnvOK P E) {call : CallF} (C : CallOK P E call) {base lvl n o s s'} (hc : Conc E base n s) (h : stepD E call lvl n o s = some s') : Conc E base n s' := by
  obtain ⟨c, tmps, H, hb, G, hh, F⟩ := hc
  have fr : ∀ (c1 : Cx) (t1 : Fr) (v : AV) (val : Value), HR base c1 → Ext base c c1 → RV c1 v val → putT n s.t o.dst v = some t1 → Conc E base n ⟨t1, c1.h⟩ := by
    intro c1 t1 v val H1 X hv hp
    refine ⟨c1, ((⟨tmps, []⟩ : Act).put o.dst val).tmps, H1, Nat.le_trans hb X.size, G.ext X H, rfl, ?_⟩
    exact (show FR c1 n s.t (⟨tmps, []⟩ : Act).tmps from F.ext X H).put hp hv
  unfold stepD at h
  simp only [aOps] at h
  cases hw : wantedA s.t o with
  | none => rw [hw] at h; simp at h
  | some b =>
    rw [hw] at h
    cases b with
    | false =>
      simp only at h
      cases hp : putT n s.t o.dst (.tup []) with
      | none => rw [hp] at h; simp at h
      | some t1 =>
        rw [hp] at h
        simp only [Option.bind_some, Option.some.injEq] at h
        subst h
        have := fr c t1 _ undef H (.refl _ _) (.tup [] [] .nil) hp
        rwa [hh] at this
    | true =>
      simp only at h
      cases ho : aOp E lvl s.t s.h o with
      | none => rw [ho] at h; simp at h
      | some q =>
        rw [ho] at h
        rw [← hh] at ho
        have hs := aOp_sound O (a := ⟨tmps, []⟩) ho H hb G F
        cases q with
        | panic v => simp at h
        | val v h1 =>
          simp only at h
          cases hp : putT n s.t o.dst v with
          | none => rw [hp] at h; simp at h
          | some t1 =>
            rw [hp] at h
            simp only [Option.bind_some, Option.some.injEq] at h
            subst h
            obtain ⟨val, c1, a1, a2, a3, a4, a5⟩ := hs
            have := fr c1 t1 v val a4 a5 a3 hp
            rwa [a1] at this
        | skip h1 =>
          simp only at h
          cases hp : putT n s.t o.dst (.tup []) with
          | none => rw [hp] at h; simp at h
          | some t1 =>
            rw [hp] at h
            simp only [Option.bind_some, Option.some.injEq] at h
            subst h
            obtain ⟨c1, a1, a2, a4, a5⟩ := hs
            have := fr c1 t1 _ undef a4 a5 (.tup [] [] .nil) hp
            rwa [a1] at this
        | call f args =>
          simp only at h
          obtain ⟨vals, _, a2⟩ := hs
          cases hcl : call (o.dst.getD 0) f args s.h with
          | none => rw [hcl] at h; simp at h
          | some p =>
            obtain ⟨r', h1⟩ := p
            rw [hcl] at h
            cases r' with
            | panic ch => simp at h
            | ret v =>
              simp only at h
              cases hp : putT n s.t o.dst v with
              | none => rw [hp] at h; simp at h
              | some t1 =>
                rw [hp] at h
                simp only [Option.bind_some, Option.some.injEq] at h
                subst h
                rw [← hh] at hcl
                obtain ⟨g, vals', b1, b2⟩ := C base c _ f args vals (.ret v) h1 hcl H hb G a2
                obtain ⟨e, w', fr', ⟨c1, q1, q2, q3, q4, val, q5, q6⟩, _⟩ := b2 []
                have := fr c1 t1 v val q3 q4 q6 hp
                rwa [q2] at this

theorem footL_cons {E call lvl n o r s fs} : footL E call lvl n (o :: r) s = some fs ↔ ∃ s1 l, stepD E call lvl n o s = some s1 ∧ footL E call lvl n r s1 = some l ∧ fs = keysOp E s.t o :: l := by
  simp only [footL, stepD]
  cases aOps E call lvl n [o] s with
  | none => simp
  | some p =>
    obtain ⟨e, s1⟩ := p
    cases e with
    | normal =>
      simp only
      cases h : footL E call lvl n r s1 with
      | none =>
        constructor
        · intro q; cases q
        · rintro ⟨s2, l, q1, q2, _⟩; cases q1; rw [h] at q2; cases q2
      | some l =>
        constructor
        · intro q; cases q; exact ⟨s1, l, rfl, h, rfl⟩
        · rintro ⟨s2, l', q1, q2, rfl⟩; cases q1; rw [h] at q2; cases q2; rfl
    | _ => simp
theorem keysOp_eqv {E : Env} {s s2 : St} (e : Eqv s s2) (o : Oper) : keysOp E s2.t o = keysOp E s.t o := keysOp_same fun x _ => opd_look fun i _ => e.t i
theorem foot_cong {E call lvl n} (C : CP call) : ∀ {l s s2 fs}, footL E call lvl n l s = some fs → Eqv s s2 → footL E call lvl n l s2 = some fs
  | [], s, s2, fs, h, e => h
  | o :: r, s, s2, fs, h, e => by
    obtain ⟨s1, l, h1, h2, rfl⟩ := footL_cons.1 h
    obtain ⟨s3, h3, h4⟩ := step_cong C h1 e
    exact footL_cons.2 ⟨s3, l, h3, foot_cong C h2 h4, by rw [keysOp_eqv e]⟩
theorem foot_total {E call lvl n} : ∀ {l s s'}, aOps E call lvl n l s = some (.normal, s') → ∃ fs, footL E call lvl n l s = some fs ∧ fs.length = l.length
  | [], s, s', h => ⟨[], rfl, rfl⟩
  | o :: r, s, s', h => by
    obtain ⟨s1, h1, h2⟩ := aOps_cons.1 h
    obtain ⟨l, h3, h4⟩ := foot_total h2
    exact ⟨_, footL_cons.2 ⟨s1, l, h1, h3, rfl⟩, by simp [h4]⟩

/-- An operation that depends on none before it goes first. -/
theorem front {P E} (O : EnvOK P E) {call : CallF} (K : CallOK P E call) (C : CP call) {base lvl n x fx} : ∀ {pre fpre post fpost s s'}, Conc E base n s → fpre.length = pre.length → (∀ p ∈ pre.zip fpre, apartN p.1 x = true ∧ (ClsP p.1 x ∨ ∀ k ∈ p.2, k ∉ fx)) →
    aOps E call lvl n (pre ++ x :: post) s = some (.normal, s') → footL E call lvl n (pre ++ x :: post) s = some (fpre ++ fx :: fpost) →
    ∃ s'', aOps E call lvl n (x :: (pre ++ post)) s = some (.normal, s'') ∧ Eqv s' s'' ∧ footL E call lvl n (x :: (pre ++ post)) s = some (fx :: (fpre ++ fpost))
  | [], fpre, post, fpost, s, s', _, hl, _, h, hf => by
    have : fpre = [] := List.eq_nil_of_length_eq_zero (by simpa using hl)
    subst this
    exact ⟨s', h, .refl _, hf⟩
  | k :: pre, [], post, fpost, s, s', _, hl, _, _, _ => by simp at hl
  | k :: pre, fk :: fpre, post, fpost, s, s', hc, hl, ha, h, hf => by
    obtain ⟨s1, h1, h2⟩ := aOps_cons.1 h
    obtain ⟨s1', l, e1, e2, e3⟩ := footL_cons.1 hf
    rw [h1] at e1; cases e1
    simp only [List.cons_append, List.cons.injEq] at e3
    obtain ⟨rfl, rfl⟩ := e3
    obtain ⟨s2, h3, h4, hf3⟩ := front O K C (hc.step O K h1) (by simpa using hl) (fun q hq => ha q (by rw [List.zip_cons_cons]; exact List.mem_cons_of_mem _ hq)) h2 e2
    obtain ⟨s3, h5, h6⟩ := aOps_cons.1 h3
    obtain ⟨s3', l2, e4, e5, e6⟩ := footL_cons.1 hf3
    rw [h5] at e4; cases e4
    simp only [List.cons.injEq] at e6
    obtain ⟨rfl, rfl⟩ := e6
    obtain ⟨ab, hd⟩ := ha (k, keysOp E s.t k) (by rw [List.zip_cons_cons]; simp)
    obtain ⟨t1, t2, g1, g2, g3, kb, ka⟩ := swap C hc.wf ab hd h1 h5
    obtain ⟨s4, g4, g5⟩ := run_cong C h6 g3
    refine ⟨s4, aOps_cons.2 ⟨t1, g1, aOps_cons.2 ⟨t2, g2, g4⟩⟩, h4.trans g5, ?_⟩
    refine footL_cons.2 ⟨t1, _, g1, footL_cons.2 ⟨t2, _, g2, foot_cong C e5 g3, rfl⟩, ?_⟩
    rw [kb, ka]
    rfl

theorem eqv_ctx {base c} (H : HR base c) (h : Heap) (e : ∀ k, lookK h k = lookK c.h k) : HR base { c with h := h } ∧ (∀ x v, RV c x v → RV { c with h := h } x v) ∧ ∀ L, ExtL L base c { c with h := h } := by
  have rv : ∀ x v, RV c x v → RV { c with h := h } x v := fun x v hx => hx.mono (c := c) (c' := { c with h := h }) (fun b hb => ⟨hb, rfl⟩) fun k _ ⟨o, ho⟩ => ⟨⟨o, (e k).trans ho⟩, rfl⟩
  refine ⟨⟨?_, ?_, ?_, ?_, H.rd⟩, rv, fun L => ⟨rfl, rfl, rfl, Nat.le_refl _, fun _ _ _ => rfl, fun _ h => h, fun k _ ⟨o, ho⟩ => ⟨⟨o, (e k).trans ho⟩, rfl⟩, fun b h => .inl h, ?_⟩⟩
  · intro k o hk hl
    obtain ⟨arr, ee, fr, h1, h2, h3, h4, h4b, h5⟩ := H.obj k o ((e k).symm.trans hk) hl
    exact ⟨arr, ee, fr, h1, h2, h3, h4, h4b, fun i x hx => by
      obtain ⟨v, q1, q2, q3⟩ := h5 i x hx
      exact ⟨v, q1, rv _ _ q2, q3⟩⟩
  · exact fun k o hk => H.mt k o ((e k).symm.trans hk)
  · exact fun k o hk => H.sld k o ((e k).symm.trans hk)
  · exact fun k o k' o' hk hk' => H.inj k o k' o' ((e k).symm.trans hk) ((e k').symm.trans hk')
  · rintro b ⟨k, o, hk, hl, hm, rfl⟩
    exact .inl ⟨k, o, (e k).symm.trans hk, hl, hm, rfl⟩

/-- The numbers that are still to come, in order. -/
def rest (n : Nat) (listed : Array Bool) : List Nat := (List.range n).filter fun i => !listed.getD i true

theorem ready_mem {ops : Array Oper} {listed : Array Bool} {i : Nat} : i ∈ Region.ready .any ops listed ↔ i < ops.size ∧ listed.getD i true = false ∧ ∃ o, ops[i]? = some o ∧ ∀ e ∈ o.after, Region.binds .any e = true → listed.getD e.on false = true := by
  unfold Region.ready
  rw [List.mem_filter, List.mem_range]
  have key : ∀ o : Oper, (o.after.all fun e => !Region.binds .any e || listed.getD e.on false) = true ↔ ∀ e ∈ o.after, Region.binds .any e = true → listed.getD e.on false = true := by
    intro o
    rw [Array.all_eq_true']
    constructor
    · intro h e he hb
      have := h e he
      rw [hb] at this
      simpa using this
    · intro h e he
      cases hb : Region.binds .any e with
      | false => rfl
      | true => rw [h e he hb]; rfl
  constructor
  · rintro ⟨h1, h2⟩
    rw [Bool.and_eq_true] at h2
    refine ⟨h1, by simpa using h2.1, ops[i], by simp [h1], ?_⟩
    have h3 := h2.2
    rw [Array.getElem?_eq_getElem h1] at h3
    exact (key _).1 h3
  · rintro ⟨h1, h2, o, h3, h4⟩
    refine ⟨h1, ?_⟩
    rw [Bool.and_eq_true, h3]
    exact ⟨by rw [h2]; rfl, (key o).2 h4⟩

theorem getD_set {listed : Array Bool} {i k : Nat} (b : Bool) (hi : i < listed.size) : (listed.setIfInBounds i true).getD k b = if i = k then true else listed.getD k b := by
  rw [Array.getD_eq_getD_getElem?, Array.getElem?_setIfInBounds, Array.getD_eq_getD_getElem?]
  split
  · simp [hi]
  · rfl
theorem getD_tf {listed : Array Bool} {k : Nat} (h : listed.getD k true = false) : listed.getD k false = false := by
  rw [Array.getD_eq_getD_getElem?] at h ⊢
  cases e : listed[k]? with
  | none => rfl
  | some x => rw [e] at h; exact h
theorem getD_ft {listed : Array Bool} {k : Nat} (hk : k < listed.size) : listed.getD k true = listed.getD k false := by
  simp [Array.getD_eq_getD_getElem?, hk]

theorem rest_split {n : Nat} {listed : Array Bool} {i : Nat} (hs : n ≤ listed.size) (hi : i < n) (hl : listed.getD i true = false) :
    ∃ pre post, rest n listed = pre ++ i :: post ∧ (∀ k ∈ pre, k < i ∧ listed.getD k true = false) ∧ rest n (listed.setIfInBounds i true) = pre ++ post := by
  have hr : List.range n = List.range i ++ i :: List.range' (i + 1) (n - i - 1) := by
    rw [List.range_eq_range', List.range_eq_range']
    have : n = i + (1 + (n - i - 1)) := by omega
    conv => lhs; rw [this, ← List.range'_append_1, ← List.range'_append_1]
    simp
  refine ⟨(List.range i).filter fun k => !listed.getD k true, (List.range' (i + 1) (n - i - 1)).filter fun k => !listed.getD k true, ?_, ?_, ?_⟩
  · unfold rest
    rw [hr, List.filter_append, List.filter_cons]
    simp [hl]
  · intro k hk
    rw [List.mem_filter, List.mem_range] at hk
    exact ⟨hk.1, by simpa using hk.2⟩
  · unfold rest
    rw [hr, List.filter_append, List.filter_cons]
    have h1 : (!(listed.setIfInBounds i true).getD i true) = false := by rw [getD_set _ (by omega)]; simp
    rw [if_neg (by rw [h1]; simp)]
    congr 1
    · apply List.filter_congr
      intro k hk
      rw [List.mem_range] at hk
      rw [getD_set _ (by omega), if_neg (by omega)]
    · apply List.filter_congr
      intro k hk
      rw [List.mem_range'_1] at hk
      rw [getD_set _ (by omega), if_neg (by omega)]

/-- What 'before' names comes by an edge. -/
theorem before_bit (ops : Array Oper) {i k : Nat} (h : ((Region.before ops).getD i 0).testBit k = true) : ∃ o, ops[i]? = some o ∧ ∃ e ∈ o.after, Region.binds .any e = true ∧ (e.on = k ∨ ((Region.before ops).getD e.on 0).testBit k = true) := by
  -- one operation's row
  have row : ∀ (acc : Array Nat) (es : List (Edge)) (s0 : Nat), (es.foldl (fun s e => if Region.binds .any e then s ||| 2 ^ e.on ||| acc.getD e.on 0 else s) s0).testBit k = true → s0.testBit k = true ∨ ∃ e ∈ es, Region.binds .any e = true ∧ (e.on = k ∨ (acc.getD e.on 0).testBit k = true) := by
    intro acc es
    induction es with
    | nil => intro s0 h; exact .inl h
    | cons e es ih =>
      intro s0 h
      rw [List.foldl_cons] at h
      rcases ih _ h with h1 | ⟨e', he', h2⟩
      · split at h1
        · rename_i hb
          rw [Nat.testBit_or, Nat.testBit_or, Bool.or_eq_true, Bool.or_eq_true] at h1
          rcases h1 with (h1 | h1) | h1
          · exact .inl h1
          · rw [Nat.testBit_two_pow] at h1
            exact .inr ⟨e, by simp, hb, .inl (by simpa using h1)⟩
          · exact .inr ⟨e, by simp, hb, .inr h1⟩
        · exact .inl h1
      · exact .inr ⟨e', by simp [he'], h2⟩
  let g : Array Nat → Oper → Array Nat := fun acc o => acc.push (o.after.foldl (fun s e => if Region.binds .any e then s ||| 2 ^ e.on ||| acc.getD e.on 0 else s) 0)
  have gd : ∀ (acc : Array Nat) (x i : Nat), i < acc.size → (acc.push x).getD i 0 = acc.getD i 0 := by
    intro acc x i hi
    rw [Array.getD_eq_getD_getElem?, Array.getD_eq_getD_getElem?, Array.getElem?_push_lt hi]
    simp [hi]
  have pre : ∀ (l : List Oper) (acc : Array Nat), acc.size ≤ (l.foldl g acc).size ∧ ∀ i, i < acc.size → (l.foldl g acc).getD i 0 = acc.getD i 0 := by
    intro l
    induction l with
    | nil => intro acc; exact ⟨Nat.le_refl _, fun _ _ => rfl⟩
    | cons o l ih =>
      intro acc
      obtain ⟨h1, h2⟩ := ih (g acc o)
      have hsz : (g acc o).size = acc.size + 1 := Array.size_push ..
      rw [List.foldl_cons]
      exact ⟨by omega, fun i hi => (h2 i (by omega)).trans (gd acc _ i hi)⟩
  have main : ∀ (l : List Oper) (acc : Array Nat) (i : Nat), acc.size ≤ i → ((l.foldl g acc).getD i 0).testBit k = true → ∃ o, l[i - acc.size]? = some o ∧ ∃ e ∈ o.after, Region.binds .any e = true ∧ (e.on = k ∨ ((l.foldl g acc).getD e.on 0).testBit k = true) := by
    intro l
    induction l with
    | nil =>
      intro acc i hi h
      simp only [List.foldl_nil] at h
      rw [Array.getD_eq_getD_getElem?, Array.getElem?_eq_none hi] at h
      simp at h
    | cons o l ih =>
      intro acc i hi h
      rw [List.foldl_cons] at h ⊢
      have hsz : (g acc o).size = acc.size + 1 := Array.size_push ..
      obtain ⟨p1, p2⟩ := pre l (g acc o)
      by_cases e : i = acc.size
      · subst e
        rw [p2 _ (by omega)] at h
        have h' : (o.after.foldl (fun s e => if Region.binds .any e then s ||| 2 ^ e.on ||| acc.getD e.on 0 else s) 0).testBit k = true := by
          have : (g acc o).getD acc.size 0 = o.after.foldl (fun s e => if Region.binds .any e then s ||| 2 ^ e.on ||| acc.getD e.on 0 else s) 0 := by
            show (acc.push _).getD acc.size 0 = _
            rw [Array.getD_eq_getD_getElem?, Array.getElem?_push_size]; rfl
          rwa [this] at h
        rw [← Array.foldl_toList] at h'
        rcases row acc o.after.toList 0 h' with h1 | ⟨e, he, hb, h2⟩
        · simp at h1
        · refine ⟨o, by simp, e, by simpa using he, hb, h2.imp id fun h2 => ?_⟩
          by_cases hon : e.on < acc.size
          · rw [p2 _ (by omega)]
            show ((acc.push _).getD e.on 0).testBit k = true
            rw [gd acc _ _ hon]; exact h2
          · rw [Array.getD_eq_getD_getElem?, Array.getElem?_eq_none (by omega)] at h2
            simp at h2
      · obtain ⟨o', h1, h2⟩ := ih (g acc o) i (by omega) h
        refine ⟨o', ?_, h2⟩
        rw [hsz] at h1
        have : i - acc.size = i - (acc.size + 1) + 1 := by omega
        rw [this]; simpa using h1
  have hB : Region.before ops = ops.toList.foldl g #[] := by
    unfold Region.before
    rw [← Array.foldl_toList]
  rw [hB] at h ⊢
  obtain ⟨o, h1, h2⟩ := main ops.toList #[] i (by simp) h
  exact ⟨o, by simpa using h1, h2⟩

theorem wpOp_both {P : Program} {ops : Array Oper} {Q Q' : Exit → Act → World → Prop} {i : Nat} {a : Act} {w : World} {K K' : Act → World → Prop} (h : ∀ a w, K a w → K' a w) (hq : ∀ e a w, e ≠ .normal → Q e a w → Q' e a w)
    (hh : wpOp P ops Q i K a w) : wpOp P ops Q' i K' a w := by
  have lo : LetsOut Q → LetsOut Q' := fun ⟨a, w, h⟩ => ⟨a, w, hq _ _ _ (by simp) h⟩
  unfold wpOp at *
  split
  · exact h _ _ (by simpa [*] using hh)
  · rename_i o ho
    simp only [ho] at hh
    split
    · rename_i hw
      simp only [hw, if_true] at hh
      refine hh.imp (fun hp => ?_) fun ⟨x, y⟩ => ⟨x, lo y⟩
      unfold Oper.wp at *
      generalize (execOp a.eval o).run P w = r at *
      cases r with
      | ok n w' =>
        cases n <;> simp only [Oper.upon] at hp ⊢ <;>
          first
            | exact h _ _ hp
            | exact Calls.mono hp (fun e w'' he => by cases e <;> first | exact h _ _ he | exact lo he | exact hq _ _ _ (by simp) he)
            | exact Rows.mono hp (fun _ _ he => h _ _ he)
            | exact hp
      | halt x w' => cases x <;> simp only [Oper.upon] at hp ⊢ <;> first | exact hq _ _ _ (by simp) hp | exact hp
    · rename_i hw; simp only [hw] at hh; exact h _ _ hh

end Ab
