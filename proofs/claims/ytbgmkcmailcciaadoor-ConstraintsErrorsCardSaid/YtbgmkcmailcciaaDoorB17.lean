/- Code and calls of the evaluator are the model's. Own work, no conditions. -/
import Derived.Test.YtbgmkcmailcciaaDoorB16
set_option linter.unusedVariables false
set_option linter.unusedSimpArgs false
namespace Ab
open Go

/-- What a stretch of code may turn: of the keys, those of the levels below stay. -/
structure ExtL (L base : Nat) (c c' : Cx) : Prop where
  os : c'.w.os = c.w.os
  tape : c'.w.tape = c.w.tape
  output : c'.w.output = c.w.output
  size : c.w.heap.size ≤ c'.w.heap.size
  frame : ∀ b, b < c.w.heap.size → ¬ c.Mut b → c'.w.heap[b]? = c.w.heap[b]?
  rd : ∀ b, c.Rd b → c'.Rd b
  vk : ∀ k, k.1 < L → c.Vk k → c'.Vk k ∧ c'.m k = c.m k
  newrd : ∀ b, c'.Rd b → c.Rd b ∨ c.w.heap.size ≤ b ∨ c.Mut b
  newmut : ∀ b, c'.Mut b → c.Mut b ∨ c.w.heap.size ≤ b
theorem Ext.toL {base c c'} (L : Nat) (h : Ext base c c') : ExtL L base c c' := ⟨h.os, h.tape, h.output, h.size, h.frame, h.rd, fun k _ => h.vk k, h.newrd, h.newmut⟩
theorem ExtL.refl (L base c) : ExtL L base c c := (Ext.refl base c).toL L
theorem ExtL.trans {L base a b c} (h : ExtL L base a b) (k : ExtL L base b c) : ExtL L base a c where
  os := k.os.trans h.os
  tape := k.tape.trans h.tape
  output := k.output.trans h.output
  size := Nat.le_trans h.size k.size
  frame := fun x hx hm => (k.frame x (Nat.lt_of_lt_of_le hx h.size) fun hb => (h.newmut x hb).elim hm fun hl => by omega).trans (h.frame x hx hm)
  rd := fun x hx => k.rd x (h.rd x hx)
  vk := fun q hl hq => ⟨(k.vk q hl (h.vk q hl hq).1).1, (k.vk q hl (h.vk q hl hq).1).2.trans (h.vk q hl hq).2⟩
  newrd := fun x hx => by
    rcases k.newrd x hx with h1 | h1 | h1
    · exact h.newrd x h1
    · exact .inr (.inl (Nat.le_trans h.size h1))
    · rcases h.newmut x h1 with h2 | h2
      · exact .inr (.inr h2)
      · exact .inr (.inl h2)
  newmut := fun x hx => by
    rcases k.newmut x hx with h1 | h1
    · exact h.newmut x h1
    · exact .inr (Nat.le_trans h.size h1)
theorem ExtL.same {L base c c'} (e : ExtL L base c c') (h : HR base c) {b : Nat} (hb : c.Rd b) : c'.Rd b ∧ c'.w.heap[b]? = c.w.heap[b]? :=
  ⟨e.rd b hb, e.frame b (h.rd b hb) (h.not_mut hb)⟩
theorem ExtL.rv_pure {L base c c'} (e : ExtL L base c c') (h : HR base c) {x v} (hx : RV c x v) (hp : x.pure = true) : RV c' x v :=
  hx.mono (fun b hb => e.same h hb) fun k hk => by rw [AV.keys_pure x hp] at hk; cases hk
theorem GOK.ext {E base c c'} (g : GOK E c) (e : Ext base c c') (h : HR base c) : GOK E c' := fun i cs hi => e.rv h (g i cs hi)
theorem GOK.extL {E L base c c'} (g : GOK E c) (e : ExtL L base c c') (h : HR base c) : GOK E c' := fun i cs hi => e.rv_pure h (g i cs hi) rfl
theorem FR.ext {base c c' n t tmps} (F : FR c n t tmps) (e : Ext base c c') (h : HR base c) : FR c' n t tmps := ⟨F.1, fun i v hi => e.rv h (F.2 i v hi)⟩

theorem lookT_cons (i : Nat) (v : AV) (t : Fr) (q : Nat) : lookT ((i, v) :: t) q = if i = q then some v else lookT t q := rfl
theorem FR.put {c n t} {a : Act} (F : FR c n t a.tmps) {d : Option Nat} {v val t'} (h : putT n t d v = some t') (hv : RV c v val) : FR c n t' (a.put d val).tmps := by
  unfold putT at h
  cases d with
  | none => cases h; exact F
  | some d =>
    simp only at h
    split at h
    case isFalse => cases h
    rename_i hd
    cases h
    refine ⟨by simpa [Act.put] using F.1, fun i x hi => ?_⟩
    rw [lookT_cons] at hi
    simp only [Act.put]
    split at hi
    · rename_i e; subst e; cases hi
      have : d < a.tmps.size := by rw [F.1]; exact hd
      simp [Array.getD, this]; exact hv
    · rename_i e
      have := F.2 i x hi
      rw [Array.getD_eq_getD_getElem?] at this ⊢
      rwa [Array.getElem?_setIfInBounds_ne (fun q => e q)]

theorem put_defers (a : Act) (d v) : (a.put d v).defers = a.defers := by unfold Act.put; split <;> rfl

def frzU (d : Nat) (x : Oper) : Bool :=
  match x.op with
  | .call { callee := .value _, args := as, .. } => as.toList.any fun a => match a with | .tmp i => i == d | _ => false
  | _ => false
def frzR (ops : Array Oper) (o : Oper) : Array Edge :=
  match o.op, o.dst with
  | .buildSlice .., some d => if ops.toList.any (frzU d) then fz else #[]
  | _, _ => #[]
def eraseOp (ops : Array Oper) (o : Oper) : Option Oper :=
  match o.guard with
  | none => some { o with pos := "", after := frzR ops o, guard := none }
  | some (j, b) => match (ops[j]?).bind (·.dst) with
    | some d => some { o with pos := "", after := frzR ops o, guard := some (d, b) }
    | none => none
def eraseL (ops : Array Oper) : List Oper → Option (List Oper)
  | [] => some []
  | o :: r => match eraseOp ops o, eraseL ops r with
    | some x, some l => some (x :: l)
    | _, _ => none

theorem eraseOp_eq {ops : Array Oper} {o o' : Oper} (h : eraseOp ops o = some o') : o'.op = o.op ∧ o'.dst = o.dst ∧ o'.type = o.type ∧ (match o.guard with | none => o'.guard = none | some (j, b) => ∃ d, (ops[j]?).bind (·.dst) = some d ∧ o'.guard = some (d, b)) := by
  unfold eraseOp at h
  split at h
  · rename_i e; cases h; simp [e]
  · rename_i j b e
    split at h
    · rename_i d hd; cases h; simp [e, hd]
    · cases h
theorem execOp_erase {ops : Array Oper} {o o' : Oper} (h : eraseOp ops o = some o') (ρ : Operand → Value) : execOp ρ o' = execOp ρ o := by
  obtain ⟨h1, h2, h3, _⟩ := eraseOp_eq h
  unfold execOp
  rw [h1, h3]

theorem RV.bool_inv {c x b} (h : RV c x (.bool b)) : x = .bool b := by cases h; rfl

theorem wanted_sound {c n t} {a : Act} (F : FR c n t a.tmps) {ops : Array Oper} {o o' : Oper} (h : eraseOp ops o = some o') {b} (hw : wantedA t o' = some b) : Region.wanted o (yielded ops a.tmps) = b := by
  obtain ⟨_, _, _, hg⟩ := eraseOp_eq h
  unfold wantedA at hw
  unfold Region.wanted
  cases e : o.guard with
  | none => rw [e] at hg; simp only at hg; rw [hg] at hw; simpa using hw
  | some p =>
    obtain ⟨j, want⟩ := p
    rw [e] at hg
    obtain ⟨d, hd, hg⟩ := hg
    rw [hg] at hw
    simp only at hw ⊢
    simp only [yielded, hd, Option.bind_some]
    cases hl : lookT t d with
    | none => rw [hl] at hw; cases hw
    | some x =>
      rw [hl] at hw
      have hx := F.2 d x hl
      rw [Array.getD_eq_getD_getElem?] at hx
      cases hc : a.tmps[d]? with
      | none =>
        rw [hc] at hx
        cases hx
        simpa using hw
      | some v =>
        rw [hc] at hx
        simp only [Option.getD_some] at hx
        cases hx <;> simp at hw ⊢ <;> exact hw

/-- The outcome of a call, as the evaluator has it and as the model. -/
def ResR (c : Cx) : ARes → Ending → Prop
  | .ret v, e => ∃ val, e = .returned val ∧ RV c v val
  | .panic ch, e => ∃ chain, e = .panicked chain ∧ RVs c ch (chain.map (·.v)) ∧ ∀ p ∈ chain, p.recovered = false ∧ p.goexit = false

/-- What a call owes. -/
def CallS (P : Program) (E : Env) (base : Nat) (c : Cx) (f : FuncId) (vals : List Value) (r : ARes) (h' : Heap) : Prop :=
  ∃ g vals', (callFunc f ⟨vals⟩).run P c.w = .ok (.enter g vals') c.w ∧
    Calls P g vals' c.w fun e w' => ∃ c', c'.w = w' ∧ c'.h = h' ∧ HR base c' ∧ Ext base c c' ∧ ResR c' r e

def CallOK (P : Program) (E : Env) (call : CallF) : Prop :=
  ∀ base c lvl f args vals r h', call lvl f args c.h = some (r, h') → HR base c → base ≤ c.w.heap.size → GOK E c → RVs c args vals → CallS P E base c f vals r h'

def ExR (c : Cx) : AExit → Exit → Prop
  | .normal, e => e = .normal
  | .exit i, e => e = .exit i
  | .ret, e => e = .ret
  | .panic ch, e => ∃ chain, e = .panic chain ∧ RVs c ch (chain.map (·.v)) ∧ ∀ p ∈ chain, p.recovered = false ∧ p.goexit = false

/-- How things stand behind a stretch of code. -/
def Post (Ds : List Deferred) (L base n : Nat) (c : Cx) (ex : AExit) (s' : St) (e : Exit) (a' : Act) (w' : World) : Prop :=
  ∃ c', c'.w = w' ∧ c'.h = s'.h ∧ HR base c' ∧ ExtL L base c c' ∧ FR c' n s'.t a'.tmps ∧ a'.defers = Ds ∧ ExR c' ex e

theorem wpOps_cons' {P : Program} {ops : Array Oper} {Q : Exit → Act → World → Prop} {i : Nat} {rest : List Nat} {o : Oper} {a : Act} {w : World} (ho : ops[i]? = some o) :
    wpOps P ops Q (i :: rest) a w = if Region.wanted o (yielded ops a.tmps) then o.wp P a w (wpOps P ops Q rest) Q ∨ (o.asks P a w ∧ LetsOut Q) else wpOps P ops Q rest (a.put o.dst undef) w := by
  simp only [wpOps, ho]

/-- Operations in an order: each by its number. -/
theorem aOps_sound {P E} (O : EnvOK P E) {call : CallF} (C : CallOK P E call) {Ds : List Deferred} {base L lvl n : Nat} {ops : Array Oper} :
    ∀ (is : List Nat) (l l' : List Oper) (s : St) ex s' (c0 c : Cx) (a : Act), is.map (ops[·]?) = l.map some → (∀ i, i < l.length → ∃ o o', l[i]? = some o ∧ l'[i]? = some o' ∧ eraseOp ops o = some o') → l'.length = l.length →
      aOps E call lvl n l' s = some (ex, s') → HR base c → base ≤ c.w.heap.size → GOK E c → c.h = s.h → FR c n s.t a.tmps → a.defers = Ds → ExtL L base c0 c → wpOps P ops (Post Ds L base n c0 ex s') is a c.w
  | [], l, l', s, ex, s', c0, c, a, hi, hl, hlen, h, H, hb, G, hh, F, hd, X0 => by
    have : l = [] := by simpa using hi
    subst this
    have : l' = [] := List.eq_nil_of_length_eq_zero hlen
    subst this
    simp only [aOps, Option.some.injEq, Prod.mk.injEq] at h
    obtain ⟨rfl, rfl⟩ := h
    exact ⟨c, rfl, hh, H, X0, F, hd, rfl⟩
  | i :: is, l, l', s, ex, s', c0, c, a, hi, hl, hlen, h, H, hb, G, hh, F, hd, X0 => by
    cases l with
    | nil => simp at hi
    | cons o l =>
    cases l' with
    | nil => simp at hlen
    | cons o' l' =>
    simp only [List.map_cons, List.cons.injEq] at hi
    obtain ⟨ho, hi⟩ := hi
    obtain ⟨o1, o2, e1, e2, he⟩ := hl 0 (by simp)
    simp at e1 e2
    subst e1 e2
    have hl' : ∀ i, i < l.length → ∃ o o', l[i]? = some o ∧ l'[i]? = some o' ∧ eraseOp ops o = some o' := fun i hi => by
      obtain ⟨x, y, g1, g2, g3⟩ := hl (i + 1) (by simpa using hi)
      exact ⟨x, y, by simpa using g1, by simpa using g2, g3⟩
    have hlen' : l'.length = l.length := by simpa using hlen
    rw [wpOps_cons' ho]
    simp only [aOps] at h
    obtain ⟨_, hdst, _, _⟩ := eraseOp_eq he
    have next : ∀ (c1 : Cx) (t1 : Fr) (h1 : Heap) (v : AV) (val : Value), c1.h = h1 → HR base c1 → Ext base c c1 → RV c1 v val → putT n s.t o'.dst v = some t1 → aOps E call lvl n l' ⟨t1, h1⟩ = some (ex, s') →
        wpOps P ops (Post Ds L base n c0 ex s') is (a.put o.dst val) c1.w := by
      intro c1 t1 h1 v val hh1 H1 X1 hv hp hr
      exact aOps_sound O C (L := L) is l l' ⟨t1, h1⟩ ex s' c0 c1 (a.put o.dst val) hi hl' hlen' hr H1 (Nat.le_trans hb X1.size) (G.ext X1 H) hh1 ((F.ext X1 H).put (by rwa [hdst] at hp) hv) (by rw [put_defers]; exact hd) (X0.trans (X1.toL L))
    cases hw : wantedA s.t o' with
    | none => rw [hw] at h; cases h
    | some b =>
      rw [hw] at h
      have hwt := wanted_sound F he hw
      rw [hwt]
      cases b with
      | false =>
        simp only at h
        cases hp : putT n s.t o'.dst (.tup []) with
        | none => rw [hp] at h; cases h
        | some t1 =>
          rw [hp] at h
          simp only [Bool.false_eq_true, if_false]
          exact next c t1 s.h _ undef hh H (.refl _ _) (.tup [] [] .nil) hp h
      | true =>
        simp only at h
        simp only [if_true]
        left
        unfold Oper.wp
        rw [← execOp_erase he]
        cases hop : aOp E lvl s.t s.h o' with
        | none => rw [hop] at h; cases h
        | some r =>
          rw [hop] at h
          rw [← hh] at hop
          have hs := aOp_sound O (base := base) hop H hb G F
          cases r with
          | val v h1 =>
            simp only at h
            obtain ⟨val, c1, a1, a2, a3, a4, a5⟩ := hs
            cases hp : putT n s.t o'.dst v with
            | none => rw [hp] at h; cases h
            | some t1 =>
              rw [hp] at h
              rw [a2]
              exact next c1 t1 h1 v val a1 a4 a5 a3 hp h
          | skip h1 =>
            simp only at h
            obtain ⟨c1, a1, a2, a4, a5⟩ := hs
            cases hp : putT n s.t o'.dst (.tup []) with
            | none => rw [hp] at h; cases h
            | some t1 =>
              rw [hp] at h
              rw [a2]
              exact next c1 t1 h1 _ undef a1 a4 a5 (.tup [] [] .nil) hp h
          | panic v =>
            simp only [Option.some.injEq, Prod.mk.injEq] at h
            obtain ⟨rfl, rfl⟩ := h
            obtain ⟨val, a1, a2⟩ := hs
            rw [a1]
            exact ⟨c, rfl, hh, H, X0, F, hd, [{ v := val, recovered := false }], rfl, .cons _ _ _ _ a2 .nil, by intro p hp; simp at hp; subst hp; exact ⟨rfl, rfl⟩⟩
          | call f args =>
            simp only at h
            obtain ⟨vals, a1, a2⟩ := hs
            rw [a1]
            cases hc : call (o'.dst.getD 0) f args s.h with
            | none => rw [hc] at h; cases h
            | some p =>
              obtain ⟨r, h1⟩ := p
              rw [hc] at h
              rw [← hh] at hc
              obtain ⟨g, vals', b1, b2⟩ := C base c _ f args vals r h1 hc H hb G a2
              rw [b1]
              refine b2.mono ?_
              rintro e w' ⟨c1, q1, q2, q3, q4, q5⟩
              subst q1
              cases r with
              | ret v =>
                obtain ⟨val, rfl, hv⟩ := q5
                simp only at h
                cases hp : putT n s.t o'.dst v with
                | none => rw [hp] at h; cases h
                | some t1 =>
                  rw [hp] at h
                  exact next c1 t1 h1 v val q2 q3 q4 hv hp h
              | panic ch =>
                obtain ⟨chain, rfl, hch⟩ := q5
                simp only [Option.some.injEq, Prod.mk.injEq] at h
                obtain ⟨rfl, rfl⟩ := h
                exact ⟨c1, rfl, q2, q3, X0.trans (q4.toL L), F.ext q4 H, hd, chain, rfl, hch⟩

end Ab
