/- Calls of the evaluator are the model's. Own work, no conditions. -/
import Derived.Test.YtalmnhdnclmhbaaAb19
set_option linter.unusedVariables false
set_option linter.unusedSimpArgs false
namespace Ab
open Go

structure FnOK (P : Program) (f : FuncId) (fn : AFn) : Prop where
  out : ∃ F code, P.funcs[f]? = some F ∧ F.body = some code ∧ eraseC code = some fn.body ∧ F.ntmps = fn.ntmps ∧ F.results.toList = fn.results ∧ (F.name == "runtime.NumGoroutine") = false
/-- A function that the evaluator takes as known. -/
structure PrimOK (P : Program) (f : FuncId) (p : List AV → Option AV) : Prop where
  fn : ∃ F, P.funcs[f]? = some F ∧ F.body.isNone = false ∧ (F.name == "runtime.NumGoroutine") = false
  call : ∀ args v, p args = some v → AV.pureL args = true → v.pure = true → ∀ base c vals, HR base c → base ≤ c.w.heap.size → RVs c args vals →
    Calls P f ⟨vals⟩ c.w fun e w' => ∃ c', c'.w = w' ∧ c'.h = c.h ∧ HR base c' ∧ Ext base c c' ∧ ∃ val, e = .returned val ∧ RV c' v val
structure FnsOK (P : Program) (E : Env) : Prop where
  fn : ∀ f fn, E.fn f = some fn → FnOK P f fn
  prim : ∀ f p, E.prim f = some p → PrimOK P f p

theorem run_enter {P : Program} {f : FuncId} {F : Func} {args : Array Value} {w : World} (h : P.funcs[f]? = some F) (hb : F.body.isNone = false) (hn : (F.name == "runtime.NumGoroutine") = false) : (callFunc f args).run P w = .ok (.enter f args) w := by
  have hn' : ¬ (F.name = "runtime.NumGoroutine") := by simpa using hn
  have hb' : ¬ (F.body = none) := by intro e; rw [e] at hb; cases hb
  simp [callFunc, h, hn', hb']

theorem frame0_get : ∀ (args : List AV) (k i : Nat) v, lookT (frame0 args k) i = some v → k ≤ i ∧ args[i - k]? = some v
  | [], k, i, v, h => by simp [frame0, lookT] at h
  | x :: r, k, i, v, h => by
    unfold frame0 at h
    rw [lookT_cons] at h
    split at h
    · rename_i e; subst e; cases h; simp
    · rename_i e
      obtain ⟨h1, h2⟩ := frame0_get r (k + 1) i v h
      refine ⟨by omega, ?_⟩
      rw [show i - k = (i - (k + 1)) + 1 by omega]
      simpa using h2

theorem frame0_FR {c : Cx} {args : List AV} {vals : List Value} (h : RVs c args vals) {n : Nat} (hn : args.length ≤ n) : FR c n (frame0 args 0) ((⟨vals⟩ : Array Value) ++ Array.replicate (n - (⟨vals⟩ : Array Value).size) undef) := by
  have hl := h.length
  refine ⟨by simp; omega, fun i v hi => ?_⟩
  obtain ⟨_, h2⟩ := frame0_get args 0 i v hi
  obtain ⟨u, q1, q2⟩ := h.get (by simpa using h2)
  have hlt := (List.getElem?_eq_some_iff.1 q1).1
  rw [Array.getD_eq_getD_getElem?, Array.getElem?_append_left (by simpa using hlt)]
  rw [show (⟨vals⟩ : Array Value)[i]? = vals[i]? from by simp, q1]
  exact q2

def resS (tmps : Array Value) : ResultVar → Sem Value
  | .tmp t => pure (tmps.getD t undef)
  | .cell a t => do loadVar t (← asAddr (tmps.getD a undef))
theorem resA_sound {P E} (O : EnvOK P E) {base c n t} {tmps : Array Value} (H : HR base c) (F : FR c n t tmps) {r v} (h : resA E t c.h r = some v) :
    Comp P c (resS tmps r) v := by
  cases r with
  | tmp i => exact ⟨_, rfl, F.2 i v h⟩
  | cell a ty =>
    simp only [resA] at h
    split at h
    case h_2 => cases h
    rename_i p τ hp hτ
    cases hr : readC c.h p τ.size with
    | none => rw [hr] at h; cases h
    | some cs =>
      rw [hr] at h
      have hv := F.2 a p hp
      obtain ⟨u, q1, q2⟩ := load_sound O H hτ hr h hv
      refine ⟨u, ?_, q2⟩
      obtain ⟨b, off, vs, e, _⟩ := readC_sound H hr hv
      rw [e] at q1
      simp only [resS]
      rw [e]
      simpa [Instr.loadAt, Instr.sureAddr, asAddr] using q1
theorem resL_sound {P E} (O : EnvOK P E) {base c n t} {tmps : Array Value} (H : HR base c) (F : FR c n t tmps) : ∀ {rs : List ResultVar} {vs}, resL E t c.h rs = some vs →
    ∃ us, (rs.mapM (resS tmps)).run P c.w = .ok us c.w ∧ RVs c vs us
  | [], vs, h => by simp [resL] at h; subst h; exact ⟨[], by simp, .nil⟩
  | r :: rs, vs, h => by
    simp only [resL] at h
    split at h
    · rename_i v l e1 e2
      cases h
      obtain ⟨u, q1, q2⟩ := resA_sound O H F e1
      obtain ⟨us, q3, q4⟩ := resL_sound O H F e2
      exact ⟨u :: us, by simp only [List.mapM_cons, Sem.run_bind, q1, Result.andThen_ok, q3, Sem.run_pure], .cons _ _ _ _ q2 q4⟩
    · cases h
theorem results_sound {P E} (O : EnvOK P E) {base c n t} {tmps : Array Value} (H : HR base c) (F : FR c n t tmps) {fn : Func} {vs} (h : resL E t c.h fn.results.toList = some vs) :
    Comp P c (results fn tmps) (results1 vs) := by
  obtain ⟨us, q1, q2⟩ := resL_sound O H F h
  have e : (results fn tmps).run P c.w = .ok (if h : us.toArray.size = 1 then us.toArray[0] else .tuple us.toArray) c.w := by
    unfold results
    simp only [Array.mapM_eq_mapM_toList, Sem.run_bind, Sem.run_map]
    have : ∀ f g : ResultVar → Sem Value, (∀ r, f r = g r) → fn.results.toList.mapM f = fn.results.toList.mapM g := fun f g h => by rw [show f = g from funext h]
    rw [this _ (resS tmps) (fun r => by cases r <;> rfl), q1]
    simp
  refine ⟨_, e, ?_⟩
  cases q2 with
  | nil => exact .tup _ _ .nil
  | cons x v xs vs h1 h2 =>
    cases h2 with
    | nil => simpa [results1] using h1
    | cons y u ys us h3 h4 =>
      have : ¬ ((v :: u :: us).toArray.size = 1) := by simp
      rw [dif_neg this]
      exact .tup _ _ (.cons _ _ _ _ h1 (.cons _ _ _ _ h3 h4))

theorem sealA_of_pure {n : Nat} {h : Heap} {x : AV} (hp : x.pure = true) : sealA (n + 1) h x = some (x, h) := by
  unfold sealA; rw [if_pos hp]
theorem sealL_of_pure (n : Nat) : ∀ (l : List AV) (h : Heap), AV.pureL l = true → sealLW (sealA (n + 1)) h l = some (l, h)
  | [], h, _ => rfl
  | x :: l, h, hl => by
    simp only [AV.pureL, Bool.and_eq_true] at hl
    simp only [sealLW, sealA_of_pure hl.1, sealL_of_pure n l h hl.2]

theorem aCall_pure (E : Env) : ∀ n lvl f args h v h', AV.pureL args = true → aCall E n lvl f args h = some (.ret v, h') → h' = h ∧ ∀ h2, aCall E n lvl f args h2 = some (.ret v, h2)
  | 0, lvl, f, args, h, v, h', hp, e => by simp [aCall] at e
  | n + 1, lvl, f, args, h, v, h', hp, e => by
    have hseal : ∀ (l : List AV) (h : Heap), AV.pureL l = true → sealLW (sealA 20) h l = some (l, h) := sealL_of_pure 19
    simp only [aCall] at e ⊢
    split at e
    · rename_i p hpr
      rw [if_pos hp] at e
      cases hv : p args with
      | none => rw [hv] at e; cases e
      | some u =>
        rw [hv] at e
        simp only [Option.bind_some] at e
        split at e
        · rename_i hu
          cases e
          refine ⟨rfl, fun h2 => ?_⟩
          simp [hpr, hp, hv, hu]
        · cases e
    · rename_i hpr
      split at e
      · cases e
      · rename_i fn hfn
        rw [hseal args h hp] at e
        simp only at e
        split at e
        case isFalse => cases e
        rename_i hcnd
        have key : ∀ q, finA E fn h q = some (.ret v, h') → h' = h ∧ ∀ h2, finA E fn h2 q = some (.ret v, h2) := by
          intro q hq
          unfold finA at hq ⊢
          split at hq
          · split at hq
            case h_2 => cases hq
            rename_i vs hvs
            split at hq
            case h_2 => cases hq
            rename_i u _ hs
            split at hq
            · rename_i hu
              cases hq
              exact ⟨rfl, fun h2 => by simp [hvs, hs, hu]⟩
            · cases hq
          · split at hq
            case h_2 => cases hq
            rename_i vs hvs
            split at hq
            case h_2 => cases hq
            rename_i u _ hs
            split at hq
            · rename_i hu
              cases hq
              exact ⟨rfl, fun h2 => by simp [hvs, hs, hu]⟩
            · cases hq
          · split at hq <;> simp at hq
          · cases hq
        obtain ⟨k1, k2⟩ := key _ e
        refine ⟨k1, fun h2 => ?_⟩
        simp only [hpr, hfn, hseal args h2 hp]
        rw [if_pos hcnd]
        exact k2 h2

theorem aCall_sound {P E} (O : EnvOK P E) (Fs : FnsOK P E) (D : DrawSound P E) : ∀ n, CallOK P E (aCall E n)
  | 0 => fun base c lvl f args vals r h' h => by simp [aCall] at h
  | n + 1 => fun base c lvl f args vals r h' h H hb G hv => by
    simp only [aCall] at h
    split at h
    · rename_i p hpr
      split at h
      case isFalse => cases h
      rename_i hp
      cases hpv : p args with
      | none => rw [hpv] at h; cases h
      | some u =>
        rw [hpv] at h
        simp only [Option.bind_some] at h
        split at h
        case isFalse => cases h
        rename_i hu
        cases h
        obtain ⟨⟨F, f1, f2, f3⟩, hcall⟩ := Fs.prim f p hpr
        exact ⟨f, ⟨vals⟩, run_enter f1 f2 f3, hcall args u hpv hp hu base c vals H hb hv⟩
    · split at h
      · cases h
      rename_i fn hfn
      split at h
      · cases h
      rename_i args' h1 hseal
      split at h
      case isFalse => cases h
      rename_i hcnd
      obtain ⟨hpure, hlen⟩ := hcnd
      obtain ⟨F, code, f1, f2, f3, f4, f5, f6⟩ := (Fs.fn f fn hfn).out
      refine ⟨f, ⟨vals⟩, run_enter f1 (by rw [f2]; rfl) f6, ?_⟩
      obtain ⟨cs, s1, s2, s3, s4, s5, s6⟩ := sealL_sound (sealA_sound base 20) args c args' h1 vals hseal H hv
      -- the callee begins with nothing of its own
      let c0 : Cx := { cs with h := [] }
      have rv0 : ∀ x v, RV cs x v → x.pure = true → RV c0 x v := fun x v hx hp => hx.mono (c := cs) (c' := c0) (fun b hb => ⟨hb, rfl⟩) fun k hk => by rw [AV.keys_pure x hp] at hk; cases hk
      have hargs : RVs c0 args' vals := s6.mono (c := cs) (c' := c0) (fun b hb => ⟨hb, rfl⟩) fun k hk => by rw [AV.keysL_pure args' hpure] at hk; cases hk
      have H0 : HR base c0 := ⟨by simp [c0, lookK], by simp [c0, lookK], by simp [c0, lookK], by simp [c0, lookK], s4.rd⟩
      have G0 : GOK E c0 := fun g cl hg => rv0 _ _ (G.ext s5 H g cl hg) rfl
      have hb0 : base ≤ c0.w.heap.size := Nat.le_trans hb s5.size
      have hnomut : ∀ b, ¬ c0.Mut b := by rintro b ⟨k, o, hk, _⟩; simp [c0, lookK] at hk
      have hFR := frame0_FR hargs (n := fn.ntmps) hlen
      have hw : c.w = c0.w := s2.symm
      rw [hw]
      refine calls_of_wp f1 f2 ?_
      rw [f4]
      cases hc : aCode E (aCall E n) n 0 fn fn.body ⟨frame0 args' 0, []⟩ with
      | none => rw [hc] at h; simp [finA] at h
      | some q =>
        obtain ⟨ex, s⟩ := q
        rw [hc] at h
        unfold finA at h
        refine wp_mono (aCode_sound O D (aCall_sound O Fs D n) (aCall_pure E n) (L := 0) (base := base) rfl code fn.body f3 ⟨frame0 args' 0, []⟩ ex s hc c0
          { tmps := (⟨vals⟩ : Array Value) ++ Array.replicate (fn.ntmps - (⟨vals⟩ : Array Value).size) undef, defers := [] } H0 hb0 G0 rfl hFR rfl) ?_
        rintro e a' w' ⟨c1, rfl, q2, q3, q4, q5, q6, q7⟩
        -- back to the caller: its own things are as they were
        have back : ∀ (c2 : Cx), c2.w = c1.w → HR base c2 → (∀ b, c2.Rd b → c1.Rd b ∨ c1.Mut b) → (∀ b, c1.Rd b → c2.Rd b) →
            ∃ c', c'.w = c1.w ∧ c'.h = h1 ∧ HR base c' ∧ Ext base c c' ∧ ∀ x v, RV c2 x v → x.pure = true → RV c' x v := by
          intro c2 hw2 H2 hrd hrd2
          let c' : Cx := { w := c1.w, Rd := c2.Rd, m := c.m, h := h1 }
          have old : ∀ b, b < cs.w.heap.size → c1.w.heap[b]? = cs.w.heap[b]? := fun b hb => q4.frame b hb (hnomut b)
          have newR : ∀ b, c2.Rd b → cs.Rd b ∨ cs.w.heap.size ≤ b := by
            intro b hb
            rcases hrd b hb with h | h
            · rcases q4.newrd b h with h | h | h
              · exact .inl h
              · exact .inr h
              · exact absurd h (hnomut b)
            · rcases q4.newmut b h with h | h
              · exact absurd h (hnomut b)
              · exact .inr h
          have rdmono : ∀ b, cs.Rd b → c'.Rd b ∧ c'.w.heap[b]? = cs.w.heap[b]? := fun b hb => ⟨hrd2 b (q4.rd b hb), old b (s4.rd b hb)⟩
          have hmm : cs.m = c.m := s3
          have rvm : ∀ x v, RV cs x v → RV c' x v := fun x v hx => hx.mono (c := cs) (c' := c') rdmono fun k hk hvk => by
            refine ⟨?_, by rw [hmm]⟩
            obtain ⟨o, ho⟩ := hvk
            exact ⟨o, by show lookK h1 k = _; rw [← s1]; exact ho⟩
          have hlook : ∀ k o, lookK c'.h k = some o → lookK cs.h k = some o := fun k o hk => by rw [s1]; exact hk
          have hmu : ∀ k, c'.mu k = cs.mu k := fun k => by show (c.m k).1 = _; rw [← hmm]; rfl
          have Hc : HR base c' := by
            refine ⟨?_, ?_, ?_, ?_, fun b hb => by have := H2.rd b hb; rw [hw2] at this; exact this⟩
            · intro k o hk hl
              obtain ⟨arr, e, fr, g1, g2, g3, g4, g4b, g5⟩ := s4.obj k o (hlook k o hk) hl
              refine ⟨arr, e, fr, ?_, g2, g3, g4, fun hx => by have := g4b hx; rw [hmm] at this; exact this, fun i x hx => by
                obtain ⟨v, z1, z2, z3⟩ := g5 i x hx
                exact ⟨v, z1, rvm _ _ z2, z3⟩⟩
              rw [hmu]
              exact (old _ (Array.getElem?_eq_some_iff.1 g1).1).trans g1
            · intro k o hk hl hm
              have := s4.mt k o (hlook k o hk) hl hm
              rw [hmu]
              refine ⟨fun hr => ?_, this.2⟩
              obtain ⟨arr, e, fr, g1, _⟩ := s4.obj k o (hlook k o hk) hl
              rcases newR _ hr with h | h
              · exact this.1 h
              · have := (Array.getElem?_eq_some_iff.1 g1).1; omega
            · intro k o hk hl hm
              rw [hmu]
              exact (rdmono _ (s4.sld k o (hlook k o hk) hl hm)).1
            · intro k o k' o' hk hk' hl hl' hm hm' e
              rw [hmu, hmu] at e
              exact s4.inj k o k' o' (hlook k o hk) (hlook k' o' hk') hl hl' hm hm' e
          have X : Ext base cs c' := by
            refine ⟨q4.os, q4.tape, q4.output, q4.size, fun b hb _ => old b hb, fun b hb => (rdmono b hb).1, fun k ⟨o, ho⟩ => ⟨⟨o, by show lookK h1 k = _; rw [← s1]; exact ho⟩, by rw [hmm]⟩, fun b hb => ?_, ?_⟩
            · rcases newR b hb with h | h
              · exact .inl h
              · exact .inr (.inl h)
            · rintro b ⟨k, o, hk, hl, hm, rfl⟩
              exact .inl ⟨k, o, hlook k o hk, hl, hm, (hmu k).symm⟩
          refine ⟨c', rfl, rfl, Hc, s5.trans X H, fun x v hx hp => hx.mono (c := c2) (c' := c') (fun b hb => ⟨hb, by rw [hw2]⟩) fun k hk => by rw [AV.keys_pure x hp] at hk; cases hk⟩
        have good : ∀ vs, resL E s.t s.h fn.results = some vs → ∀ v hh, sealA 20 s.h (results1 vs) = some (v, hh) → v.pure = true → r = .ret v → h' = h1 →
            a'.defers = [] ∧ ∃ u, (results F a'.tmps).run P c1.w = .ok u c1.w ∧ ∃ c', c'.w = c1.w ∧ c'.h = h' ∧ HR base c' ∧ Ext base c c' ∧ ResR c' r (.returned u) := by
          intro vs hvs v hh hs hvp er eh
          rw [← q2, ← f5] at hvs
          obtain ⟨u, u1, u2⟩ := results_sound O q3 q5 hvs
          rw [← q2] at hs
          obtain ⟨c2, t1, t2, t3, t4, t5, t6⟩ := sealA_sound base 20 c1 _ _ _ u hs q3 u2
          obtain ⟨c', z1, z2, z3, z4, z5⟩ := back c2 t2 t4 (fun b hb => by
            rcases t5.newrd b hb with h | h | h
            · exact .inl h
            · have := t4.rd b hb; rw [t2] at this; omega
            · exact .inr h) t5.rd
          subst er eh
          exact ⟨q6, u, u1, c', z1, z2, z3, z4, u, rfl, z5 _ _ t6 hvp⟩
        cases ex with
        | exit i => simp at h
        | panic ch =>
          simp only at h
          split at h
          case isFalse => cases h
          rename_i hch
          simp only [Option.some.injEq, Prod.mk.injEq] at h
          obtain ⟨rfl, rfl⟩ := h
          obtain ⟨chain, rfl, z1, z2⟩ := q7
          obtain ⟨c', y1, y2, y3, y4, y5⟩ := back c1 rfl q3 (fun b hb => .inl hb) (fun b hb => hb)
          refine ⟨q6, c', y1, y2, y3, y4, chain, rfl, ?_, z2⟩
          have : ∀ {xs vs}, RVs c1 xs vs → AV.pureL xs = true → RVs c' xs vs := by
            intro xs vs hx hp
            refine .of_get hx.length fun i x v hx' hv' => ?_
            obtain ⟨v2, w1, w2⟩ := hx.get hx'
            rw [hv'] at w1; cases w1
            exact y5 _ _ w2 ((AV.pureL_all xs).1 hp x (List.mem_of_getElem? hx'))
          exact this z1 hch
        | normal =>
          obtain rfl := q7
          simp only at h
          split at h
          case h_2 => cases h
          rename_i vs hvs
          split at h
          case h_2 => cases h
          rename_i v hh hs
          split at h
          case isFalse => cases h
          rename_i hvp
          simp only [Option.some.injEq, Prod.mk.injEq] at h
          exact good vs hvs v hh hs hvp h.1.symm h.2.symm
        | ret =>
          obtain rfl := q7
          simp only at h
          split at h
          case h_2 => cases h
          rename_i vs hvs
          split at h
          case h_2 => cases h
          rename_i v hh hs
          split at h
          case isFalse => cases h
          rename_i hvp
          simp only [Option.some.injEq, Prod.mk.injEq] at h
          exact good vs hvs v hh hs hvp h.1.symm h.2.symm

end Ab
