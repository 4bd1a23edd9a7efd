/- Runs of the evaluator are the model's: plain functions, and such as defer a closure that recovers. Own work, no conditions. -/
import Derived.Test.YtbgmkcmailcciaaDoorB36
set_option linter.unusedVariables false
set_option linter.unusedSimpArgs false
namespace Ab
open Go

def capsOf : List Operand → Option (List Nat)
  | [] => some []
  | .tmp i :: r => (capsOf r).map (i :: ·)
  | _ :: _ => none
def dfrOps (ops : Array Oper) : Option (Nat × FuncId × List Nat) :=
  match ops.toList with
  | [⟨some t, .makeFunc (.func g) ⟨[]⟩ ⟨caps⟩, _, _, _, none⟩, ⟨none, .defer ⟨.value (.tmp t'), ⟨[]⟩, _⟩, _, _, _, none⟩] => if t = t' then (capsOf caps).map fun l => (t, g, l) else none
  | _ => none
def recOps (ops : Array Oper) : Option (List Nat) :=
  match ops.toList with
  | [⟨some r1, .call ⟨.builtin .recover, ⟨[]⟩, _⟩, _, _, _, none⟩, ⟨some r2, .assign (.tmp r3), _, _, _, none⟩] => if r1 = r3 then some [r2, r1] else none
  | _ => none
theorem capsOf_eq : ∀ {l : List Operand} {is}, capsOf l = some is → l = is.map Operand.tmp
  | [], is, h => by simp [capsOf] at h; subst h; rfl
  | x :: r, is, h => by
    cases x with
    | tmp i =>
      simp only [capsOf] at h
      obtain ⟨l, h1, rfl⟩ := map_some h
      simp [capsOf_eq h1]
    | _ => simp [capsOf] at h
theorem dfrOps_eq {ops : Array Oper} {t g caps} (h : dfrOps ops = some (t, g, caps)) :
    ∃ ty1 p1 a1 ts ty2 p2 a2, ops = #[⟨some t, .makeFunc (.func g) ⟨[]⟩ ⟨caps.map Operand.tmp⟩, ty1, p1, a1, none⟩, ⟨none, .defer ⟨.value (.tmp t), ⟨[]⟩, ts⟩, ty2, p2, a2, none⟩] := by
  obtain ⟨l⟩ := ops
  unfold dfrOps at h
  simp only at h
  split at h
  case h_2 => cases h
  rename_i t0 g0 caps0 ty1 p1 a1 t1 ts ty2 p2 a2
  split at h
  case isFalse => cases h
  rename_i e
  obtain ⟨l2, h1, h2⟩ := map_some h
  simp only [Prod.mk.injEq] at h2
  obtain ⟨rfl, rfl, rfl⟩ := h2
  subst e
  rw [capsOf_eq h1]
  exact ⟨_, _, _, _, _, _, _, rfl⟩
theorem recOps_eq {ops : Array Oper} {rs} (h : recOps ops = some rs) :
    ∃ r1 r2 ts ty1 p1 a1 ty2 p2 a2, rs = [r2, r1] ∧ ops = #[⟨some r1, .call ⟨.builtin .recover, ⟨[]⟩, ts⟩, ty1, p1, a1, none⟩, ⟨some r2, .assign (.tmp r1), ty2, p2, a2, none⟩] := by
  obtain ⟨l⟩ := ops
  unfold recOps at h
  simp only at h
  split at h
  case h_2 => cases h
  rename_i r1 ts ty1 p1 a1 r2 r3 ty2 p2 a2
  split at h
  case isFalse => cases h
  rename_i e
  subst e
  cases h
  exact ⟨_, _, _, _, _, _, _, _, _, rfl, rfl⟩

structure GrdOK (P : Program) (f : FuncId) (fn : AFn) (gd : Grd) : Prop where
  out : ∃ (F : Func) (code : Code) (k : Nat) (ops : Array Oper) (id : Nat), P.funcs[f]? = some F ∧ F.body = some code ∧ F.ntmps = fn.ntmps ∧ F.results.toList = fn.results ∧ (F.name == "runtime.NumGoroutine") = false ∧
    (flat code)[k]? = some (.region id ops false) ∧ dfrOps ops = some (gd.t, gd.g, gd.caps) ∧ eraseCs fn.dyn ((flat code).take k) = some gd.pre ∧ eraseCs fn.dyn ((flat code).drop (k + 1)) = some gd.post
  cls : ∃ (G : Func) (code : Code) (ops : Array Oper) (id : Nat) (rest : List Code), P.funcs[gd.g]? = some G ∧ G.body = some code ∧ G.ntmps = gd.gfn.ntmps ∧ G.results.toList = [] ∧ (G.name == "runtime.NumGoroutine") = false ∧
    flat code = .region id ops false :: rest ∧ recOps ops = some gd.rs ∧ eraseCs gd.gfn.dyn rest = some gd.gpost

/-- A run that has come to its end. -/
theorem fin_sound {P E} (O : EnvOK P E) {base c n t h r h'} {fn : AFn} {F : Func} {tmps : Array Value} (H : HR base c) (hh : c.h = h) (Fr : FR c n t tmps) (hr : F.results.toList = fn.results) (e : finA E fn (some (.ret, ⟨t, h⟩)) = some (r, h')) :
    c.h = h' ∧ ∃ u, (results F tmps).run P c.w = .ok u c.w ∧ ResR c r (.returned u) := by
  simp only [finA] at e
  split at e
  case h_2 => cases e
  rename_i vs hvs
  cases e
  rw [← hh, ← hr] at hvs
  obtain ⟨u, u1, u2⟩ := results_sound O H Fr hvs
  exact ⟨hh, u, u1, u, rfl, u2⟩

theorem lookT_app : ∀ (a b : Fr) (i : Nat), lookT (a ++ b) i = match lookT a i with | some v => some v | none => lookT b i
  | [], b, i => rfl
  | (j, v) :: a, b, i => by
    simp only [List.cons_append, lookT]
    split
    · rfl
    · exact lookT_app a b i

/-- The deferred closure's run. -/
theorem dfr_sound {P E} (O : EnvOK P E) (D : DrawSound P E) {run : RunF} (R : RunOK P E run) {n : Nat} {base : Nat} {c : Cx} {f fn gd} (K : GrdOK P f fn gd) {v : AV} {cv : List AV} {vals : List Value} {h : Heap} {w0 h3}
    (H : HR base c) (hb : base ≤ c.w.heap.size) (G : GOK E c) (hh : c.h = h) (hv : RVs c cv vals) (hvp : v.pure = true) (u u' : FrameMode) (val : Value) (hval : RV c v val)
    (hrec : ∀ (c₀ : Frame) (cs : List Frame), c₀.mode = u → (recoverD (c₀ :: cs) = some (val, { c₀ with mode := u' } :: cs)) ∨ (recoverD (c₀ :: cs) = none ∧ val = .nilIface ∧ u' = u))
    (e : dfrA E run n gd v cv h = some (.ret w0, h3)) :
    (callFunc gd.g ⟨vals⟩).run P c.w = .ok (.enter gd.g ⟨vals⟩) c.w ∧ CallsD P gd.g ⟨vals⟩ u c.w fun e' u2 w' => (∃ w, e' = .returned w) ∧ u2 = u' ∧ ∃ c', c'.w = w' ∧ c'.h = h3 ∧ HR base c' ∧ Ext base c c' := by
  obtain ⟨Gf, gcode, gops, gid, grest, g1, g2, g3, g4, g5, g6, g7, g8⟩ := K.cls
  unfold dfrA at e
  rw [← hh] at e
  obtain ⟨hl, H0, hv0, G0, pur, r0, hf, hrun, fin⟩ := lendA_sound (E := E) H (dd_nodup _) e hv
  split at hrun
  case isFalse => cases hrun
  rename_i hcnd
  obtain ⟨c1, c2, c3⟩ := hcnd
  generalize hks : dd (reach c.h 3 (AV.keysL cv)) = ks at *
  have hr0 : r0 = .ret (.tup []) ∧ ∃ ex s, aCodes E (site gd.gfn run) (dcall run) n 1 gd.gfn gd.gpost ⟨gd.rs.map (fun r => (r, v)) ++ frame0 (AV.rnL (inK ks) cv) 0, hl⟩ = some (ex, s) ∧ (ex = .normal ∨ ex = .ret) ∧ s.h = hf := by
    split at hrun
    · rename_i s hs; cases hrun; exact ⟨rfl, _, _, hs, .inl rfl, rfl⟩
    · rename_i s hs; cases hrun; exact ⟨rfl, _, _, hs, .inr rfl, rfl⟩
    · cases hrun
  obtain ⟨rfl, ex, s, hs, hex, hsf⟩ := hr0
  refine ⟨run_enter g1 (by rw [g2]; rfl) g5, callsD_of_wpS g1 g2 fun c₀ cs hu => ?_⟩
  obtain ⟨r1, r2, ts, ty1, p1, a1, ty2, p2, a2, hrs, rfl⟩ := recOps_eq g7
  rw [hrs] at hs c3
  simp only [List.all_cons, List.all_nil, Bool.and_true, Bool.and_eq_true, decide_eq_true_eq] at c3
  obtain ⟨b2, b1⟩ := c3
  -- behind the recovery
  let Q : Exit → Act → List Frame → World → Prop := bodyPostS P Gf c₀ cs fun e' u2 w' => (∃ w, e' = .returned w) ∧ u2 = u' ∧ ∃ c', c'.w = w' ∧ c'.h = h3 ∧ HR base c' ∧ Ext base c c'
  have hFR0 := frame0_FR hv0 (n := gd.gfn.ntmps) c2
  have hval0 := pur v val hval hvp
  let a0 : Act := { tmps := (⟨vals⟩ : Array Value) ++ Array.replicate (Gf.ntmps - (⟨vals⟩ : Array Value).size) undef, defers := [] }
  have tail : ∀ a : Act, a.defers = [] → FR (lentC c ks hl) gd.gfn.ntmps ((r2, v) :: (r1, v) :: frame0 (AV.rnL (inK ks) cv) 0) a.tmps → wpSL P Q grest a ({ c₀ with mode := u' } :: cs) c.w := by
    intro a had hFR
    refine wpSL_of_wpL (wpL_mono ?_ (aCodes_sound O D (site_ok R gd.gfn) (dcall_ok R) (dcall_cp run) (base := base) (fuel := n) (lvl := 1) (fn := gd.gfn) grest gd.gpost g8 _ ex s (by simpa using hs) (lentC c ks hl) a H0 hb (G0 G) rfl hFR had))
    rintro e' a' w' ⟨c3, rfl, q2, q3, q4, q5, q6, q7⟩
    have hres : ∃ u3, (results Gf a'.tmps).run P c3.w = .ok u3 c3.w ∧ RV c3 (.tup []) u3 := by
      have : resL E s.t c3.h Gf.results.toList = some [] := by rw [g4]; rfl
      exact results_sound O q3 q5 this
    obtain ⟨u3, y1, y2⟩ := hres
    obtain ⟨c', z1, z2, z3, z4, z5⟩ := fin c3 (q2.trans hsf) q3 q4 (.returned u3) ⟨u3, rfl, y2⟩
    have good : a'.defers = [] ∧ ∃ u4, { c₀ with mode := u' } :: cs = { c₀ with mode := u4 } :: cs ∧ ∃ v4, (results Gf a'.tmps).run P c3.w = .ok v4 c3.w ∧ ((∃ w, (Ending.returned v4) = .returned w) ∧ u4 = u' ∧ ∃ c', c'.w = c3.w ∧ c'.h = h3 ∧ HR base c' ∧ Ext base c c') :=
      ⟨q6, u', rfl, u3, y1, ⟨u3, rfl⟩, rfl, c', z1, z2, z3, z4⟩
    rcases hex with rfl | rfl
    · obtain rfl := q7; exact good
    · obtain rfl := q7; exact good
  have hput : ∀ x : Value, RV (lentC c ks hl) v x → FR (lentC c ks hl) gd.gfn.ntmps ((r2, v) :: (r1, v) :: frame0 (AV.rnL (inK ks) cv) 0) ((a0.put (some r1) x).put (some r2) x).tmps := by
    intro x hx
    have F1 : FR (lentC c ks hl) gd.gfn.ntmps ((r1, v) :: frame0 (AV.rnL (inK ks) cv) 0) (a0.put (some r1) x).tmps := by
      refine FR.put (t := frame0 (AV.rnL (inK ks) cv) 0) (a := a0) (d := some r1) (v := v) ?_ (by simp [putT, b1]) hx
      show FR _ _ _ ((⟨vals⟩ : Array Value) ++ Array.replicate (Gf.ntmps - (⟨vals⟩ : Array Value).size) undef)
      rw [g3]; exact hFR0
    exact FR.put (t := (r1, v) :: frame0 (AV.rnL (inK ks) cv) 0) (a := a0.put (some r1) x) F1 (d := some r2) (v := v) (by simp [putT, b2]) hx
  have heval : ∀ x : Value, (a0.put (some r1) x).eval (.tmp r1) = x := by
    intro x
    have hsz : r1 < a0.tmps.size := by
      have := hFR0.1
      show r1 < ((⟨vals⟩ : Array Value) ++ Array.replicate (Gf.ntmps - (⟨vals⟩ : Array Value).size) undef).size
      rw [g3, this]; exact b1
    simp [Act.eval, Act.put, Array.getD, hsz]
  have body : wpSL P Q (flat gcode) a0 (c₀ :: cs) c.w := by
    rw [g6]
    show (Code.region gid _ false).wpS P (Exit.thenS (wpSL P Q grest) Q) a0 (c₀ :: cs) c.w
    refine wpS_region ?_
    show wpOpsS P _ _ [0, 1] a0 (c₀ :: cs) c.w
    have hex0 : ∀ (ρ : Operand → Value) (w : World), (execOp ρ ⟨some r1, .call ⟨.builtin .recover, ⟨[]⟩, ts⟩, ty1, p1, a1, none⟩).run P w = .ok .recover w := by
      intro ρ w
      simp [execOp, resolve, invoke, builtin]
    have step2 : ∀ (x : Value), RV (lentC c ks hl) v x → wpOpsS P #[⟨some r1, .call ⟨.builtin .recover, ⟨[]⟩, ts⟩, ty1, p1, a1, none⟩, ⟨some r2, .assign (.tmp r1), ty2, p2, a2, none⟩] (Exit.thenS (wpSL P Q grest) Q) [1] (a0.put (some r1) x) ({ c₀ with mode := u' } :: cs) c.w := by
      intro x hx
      have e2 : (execOp (a0.put (some r1) x).eval ⟨some r2, .assign (.tmp r1), ty2, p2, a2, none⟩).run P c.w = .ok (.value x) c.w := by
        simp [execOp, heval x]
      simp only [wpOpsS, List.getElem?_toArray, List.getElem?_cons_succ, List.getElem?_cons_zero, Region.wanted, if_true, e2, Oper.upon]
      exact tail _ (by rw [put_defers, put_defers]) (hput x hx)
    simp only [wpOpsS, List.getElem?_toArray, List.getElem?_cons_succ, List.getElem?_cons_zero, Region.wanted, if_true, hex0]
    rcases hrec c₀ cs hu with hr | ⟨hr, hvn, huu⟩
    · rw [hr]
      have := step2 val hval0
      simp only [wpOpsS, List.getElem?_toArray, List.getElem?_cons_succ, List.getElem?_cons_zero, Region.wanted, if_true] at this
      exact this
    · rw [hr]
      subst hvn
      have hc0 : ({ c₀ with mode := u' } : Frame) = c₀ := by rw [huu, ← hu]
      have := step2 .nilIface hval0
      rw [hc0] at this
      simp only [wpOpsS, List.getElem?_toArray, List.getElem?_cons_succ, List.getElem?_cons_zero, Region.wanted, if_true] at this
      exact this
  have := wpS_flat gcode (r := []) (Q := Q) (a := a0) (cs := c₀ :: cs) (w := c.w) (by simpa using body)
  refine wpS_mono this fun e' a' cs' w' hq => ?_
  by_cases he : e' = .normal
  · subst he; exact hq
  · rwa [thenS_other he] at hq

structure FnsOK (P : Program) (E : Env) : Prop where
  fn : ∀ f fn, E.fn f = some fn → E.grd f = none → FnOK P f fn
  grd : ∀ f fn gd, E.fn f = some fn → E.grd f = some gd → GrdOK P f fn gd
  prim : ∀ f p, E.prim f = some p → PrimOK P E f p

theorem grd_sound {P E} (O : EnvOK P E) (D : DrawSound P E) {run : RunF} (R : RunOK P E run) {n : Nat} {base : Nat} {c : Cx} {f fn gd} (K : GrdOK P f fn gd) {args : List AV} {vals : List Value} {r h'}
    (H : HR base c) (hb : base ≤ c.w.heap.size) (G : GOK E c) (hv : RVs c args vals) (hlen : args.length ≤ fn.ntmps)
    (e : grdP E run n fn gd (aCodes E (site fn run) (dcall run) n 1 fn gd.pre ⟨frame0 args 0, c.h⟩) = some (r, h')) :
    ∃ g vals', (callFunc f ⟨vals⟩).run P c.w = .ok (.enter g vals') c.w ∧ Calls P g vals' c.w fun e w' => ∃ c', c'.w = w' ∧ c'.h = h' ∧ HR base c' ∧ ExtL 1 base c c' ∧ ResR c' r e := by
  obtain ⟨F, code, k, ops, id, f1, f2, f3, f4, f5, f6, f7, f8, f9⟩ := K.out
  refine ⟨f, ⟨vals⟩, run_enter f1 (by rw [f2]; rfl) f5, ?_⟩
  let RR : Ending → World → Prop := fun e w' => ∃ c', c'.w = w' ∧ c'.h = h' ∧ HR base c' ∧ ExtL 1 base c c' ∧ ResR c' r e
  refine calls_of_wp_defers f1 f2 (R := RR) (wp_flat' ?_)
  have hFR := frame0_FR hv (n := fn.ntmps) hlen
  have hsplit : flat code = (flat code).take k ++ (.region id ops false :: (flat code).drop (k + 1)) := by
    obtain ⟨hk, hk2⟩ := List.getElem?_eq_some_iff.1 f6
    rw [← hk2, ← List.drop_eq_getElem_cons hk, List.take_append_drop]
  rw [hsplit]
  refine wpL_app ?_
  cases hp : aCodes E (site fn run) (dcall run) n 1 fn gd.pre ⟨frame0 args 0, c.h⟩ with
  | none => rw [hp] at e; simp [grdP] at e
  | some p =>
  obtain ⟨ex, s⟩ := p
  rw [hp] at e
  rw [show F.ntmps = fn.ntmps from f3]
  refine wpL_mono ?_ (aCodes_sound O D (site_ok R fn) (dcall_ok R) (dcall_cp run) (base := base) (fuel := n) (lvl := 1) (fn := fn) _ gd.pre f8 ⟨frame0 args 0, c.h⟩ ex s hp c
    { tmps := (⟨vals⟩ : Array Value) ++ Array.replicate (fn.ntmps - (⟨vals⟩ : Array Value).size) undef, defers := [] } H hb G rfl hFR rfl)
  rintro ee a' w' ⟨c1, rfl, q2, q3, q4, q5, q6, q7⟩
  cases ex with
  | exit i => simp [grdP] at e
  | ret =>
    obtain rfl := q7
    simp only [grdP] at e
    obtain ⟨z1, u, z2, z3⟩ := fin_sound O q3 q2 q5 f4 e
    show Leaves P F a'.tmps RR a'.defers .returning c1.w
    rw [q6]
    exact ⟨u, z2, c1, rfl, z1, q3, q4, z3⟩
  | panic ch =>
    obtain ⟨chain, rfl, z1, z2⟩ := q7
    simp only [grdP, finA, Option.some.injEq, Prod.mk.injEq] at e
    obtain ⟨rfl, rfl⟩ := e
    show Leaves P F a'.tmps RR a'.defers (.panicking chain) c1.w
    rw [q6]
    exact ⟨c1, rfl, q2, q3, q4, chain, rfl, z1, z2⟩
  | normal =>
    obtain rfl := q7
    simp only [grdP] at e
    split at e
    case h_2 => cases e
    rename_i cv hcv
    split at e
    case h_2 => cases e
    rename_i t1 hput
    split at e
    case isFalse => cases e
    rename_i hlow
    obtain ⟨ty1, p1, a1, ts, ty2, p2, a2, rfl⟩ := dfrOps_eq f7
    have G1 := G.extL q4 H
    have hb1 : base ≤ c1.w.heap.size := Nat.le_trans hb q4.size
    have hcvr : RVs c1 cv ((gd.caps.map Operand.tmp).map a'.eval) := opdL_sound G1 q5 hcv
    let capv : Array Value := ⟨(gd.caps.map Operand.tmp).map a'.eval⟩
    let clo : Value := .func (.func gd.g) #[] capv
    have hclo : RV c1 (.fn gd.g [] cv) clo := .fn gd.g [] cv [] _ .nil hcvr
    let d : Deferred := { target := .fn (.func gd.g) capv, args := #[] ++ #[] }
    let a2' : Act := ({ (a'.put (some gd.t) clo) with defers := d :: (a'.put (some gd.t) clo).defers } : Act).put none undef
    show Exit.then (wpL P (bodyPostD P F RR) (.region id _ false :: (flat code).drop (k + 1))) (bodyPostD P F RR) .normal a' c1.w
    show (Code.region id _ false).wp P (Exit.then (wpL P (bodyPostD P F RR) ((flat code).drop (k + 1))) (bodyPostD P F RR)) a' c1.w
    refine wp_region ?_
    show wpOps P _ _ [0, 1] a' c1.w
    have ht : gd.t < fn.ntmps := by
      unfold putT at hput
      simp only at hput
      split at hput
      · assumption
      · cases hput
    have hF1 : FR c1 fn.ntmps t1 (a'.put (some gd.t) clo).tmps := q5.put hput hclo
    have heval : (a'.put (some gd.t) clo).eval (.tmp gd.t) = clo := by
      have : gd.t < a'.tmps.size := by rw [q5.1]; exact ht
      simp [Act.eval, Act.put, Array.getD, this]
    have e1 : (execOp a'.eval ⟨some gd.t, .makeFunc (.func gd.g) ⟨[]⟩ ⟨gd.caps.map Operand.tmp⟩, ty1, p1, a1, none⟩).run P c1.w = .ok (.value clo) c1.w := by
      simp [execOp, Instr.makeFunc, clo, capv]
    have e2 : (execOp (a'.put (some gd.t) clo).eval ⟨none, .defer ⟨.value (.tmp gd.t), ⟨[]⟩, ts⟩, ty2, p2, a2, none⟩).run P c1.w = .ok (.defer d) c1.w := by
      simp only [execOp, resolve, heval]
      simp [clo, Deferred.ofValue, d]
    simp only [wpOps, List.getElem?_toArray, List.getElem?_cons_zero, List.getElem?_cons_succ, Region.wanted, if_true]
    left
    unfold Oper.wp
    rw [e1]
    simp only [Oper.upon]
    left
    rw [e2]
    show wpL P (bodyPostD P F RR) ((flat code).drop (k + 1)) a2' c1.w
    have ha2t : a2'.tmps = (a'.put (some gd.t) clo).tmps := rfl
    have ha2d : a2'.defers = [d] := by
      show d :: (a'.put (some gd.t) clo).defers = [d]
      rw [put_defers, q6]
    cases hq : aCodes E (site fn run) (dcall run) n 2 fn gd.post ⟨t1, s.h⟩ with
    | none => rw [hq] at e; simp [grdR] at e
    | some p2 =>
    obtain ⟨ex2, s2⟩ := p2
    rw [hq] at e
    refine wpL_mono ?_ (aCodes_sound O D (site_ok R fn) (dcall_ok R) (dcall_cp run) (base := base) (fuel := n) (lvl := 2) (fn := fn) _ gd.post f9 ⟨t1, s.h⟩ ex2 s2 hq c1 a2' q3 hb1 G1 q2 hF1 ha2d)
    rintro ee a3 w3 ⟨c2, rfl, y2, y3, y4, y5, y6, y7⟩
    have y41 : ExtL 1 base c1 c2 := ⟨y4.os, y4.tape, y4.output, y4.size, y4.frame, y4.rd, fun k hk => y4.vk k (by omega), y4.newrd, y4.newmut⟩
    have X2 : ExtL 1 base c c2 := q4.trans y41
    have hcap2 : RVs c2 cv capv.toList := hcvr.mono (c := c1) (c' := c2) (fun b hb => y4.same q3 hb) fun k hk hvk => y4.vk k (by
      have := List.all_eq_true.1 hlow k hk
      simpa using this) hvk
    have G2 := G1.extL y41 q3
    have hb2 : base ≤ c2.w.heap.size := Nat.le_trans hb1 y4.size
    -- what the closure has captured is of the pre's things: it is handed on as long as it is there
    have fin2 : ∀ (v : AV) (val : Value) (u u' : FrameMode), grdE E fn s2.t (dfrA E run n gd v cv s2.h) = some (r, h') → v.pure = true → RV c2 v val → u ≠ .run → settle u' = .returning →
        (∀ (c₀ : Frame) (cs : List Frame), c₀.mode = u → (recoverD (c₀ :: cs) = some (val, { c₀ with mode := u' } :: cs)) ∨ (recoverD (c₀ :: cs) = none ∧ val = .nilIface ∧ u' = u)) →
        Leaves P F a3.tmps RR a3.defers u c2.w := by
      intro v val u u' hg hvp hval hu hset hrec
      cases hd : dfrA E run n gd v cv s2.h with
      | none => rw [hd] at hg; simp [grdE] at hg
      | some p3 =>
      obtain ⟨r3, h3⟩ := p3
      rw [hd] at hg
      cases r3 with
      | panic _ => simp [grdE] at hg
      | ret w0 =>
      simp only [grdE] at hg
      obtain ⟨k1, k2⟩ := dfr_sound O D R K y3 hb2 G2 y2 hcap2 hvp u u' val hval hrec hd
      rw [y6]
      refine ⟨hu, .func gd.g, capv, gd.g, capv, rfl, ?_, ?_⟩
      · show (invoke (.fn (.func gd.g) capv) (#[] ++ #[])).run P c2.w = _
        simp only [invoke, Array.append_empty, Array.empty_append]
        exact k1
      · intro c₀ cs hm
        obtain ⟨e', u2, w', fr, ⟨⟨w, rfl⟩, rfl, c4, rfl, x2, x3, x4⟩, hc, hk, hg2⟩ := k2 c₀ cs hm
        refine ⟨_, _, _, fr, ?_, hc, hk, hg2⟩
        show Leaves P F a3.tmps RR [] (settle u2) c4.w
        rw [hset]
        have F4 : FR c4 fn.ntmps s2.t a3.tmps := y5.ext x4 y3
        obtain ⟨z1, u4, z2, z3⟩ := fin_sound O x3 x2 F4 f4 hg
        exact ⟨u4, z2, c4, rfl, z1, x3, X2.trans (x4.toL 1), z3⟩
    have fin3 : grdE E fn s2.t (dfrA E run n gd .nili cv s2.h) = some (r, h') → Leaves P F a3.tmps RR a3.defers .returning c2.w := fun hg =>
      fin2 .nili .nilIface .returning .returning hg rfl .nili (by simp) rfl fun c₀ cs hm => .inr ⟨by simp [recoverD, hm], rfl, rfl⟩
    cases ex2 with
    | exit i => simp [grdR] at e
    | normal => obtain rfl := y7; exact fin3 e
    | ret => obtain rfl := y7; exact fin3 e
    | panic ch =>
      obtain ⟨chain, rfl, z1, z2⟩ := y7
      have hch : ∃ v, ch = [v] := by
        cases ch with
        | nil => simp [grdR] at e
        | cons v l =>
          cases l with
          | nil => exact ⟨v, rfl⟩
          | cons x l => simp [grdR] at e
      obtain ⟨v, rfl⟩ := hch
      simp only [grdR] at e
      split at e
      case isFalse => cases e
      rename_i hvp
      obtain ⟨p, rfl⟩ : ∃ p, chain = [p] := by
        have := z1.length
        cases chain with
        | nil => simp at this
        | cons p l =>
          cases l with
          | nil => exact ⟨p, rfl⟩
          | cons x l => simp at this
      obtain ⟨z3, z4⟩ := z2 p (by simp)
      have hval : RV c2 v p.v := by
        cases z1 with
        | cons _ _ _ _ h1 _ => exact h1
      obtain ⟨pv, pr, pg⟩ := p
      simp only at z3 z4 hval
      subst z3 z4
      exact fin2 v pv (.panicking [⟨pv, false, false⟩]) (.panicking [⟨pv, true, false⟩]) e hvp hval (by simp) rfl fun c₀ cs hm => .inl (by simp [recoverD, hm])

theorem aRun_sound {P E} (O : EnvOK P E) (Fs : FnsOK P E) (D : DrawSound P E) : ∀ n, RunOK P E (aRun E n)
  | 0 => fun base c f args vals r h' h => by simp [aRun] at h
  | n + 1 => fun base c f args vals r h' h H hb G hv => by
    simp only [aRun] at h
    split at h
    · rename_i p hpr
      split at h
      case isFalse => cases h
      rename_i hp
      cases hpv : p args with
      | none => rw [hpv] at h; cases h
      | some u =>
        rw [hpv] at h
        simp only [Option.bind_some] at h
        split at h
        case isFalse => cases h
        rename_i hu
        cases h
        obtain ⟨⟨F, f1, f2, f3⟩, hcall⟩ := Fs.prim f p hpr
        refine ⟨f, ⟨vals⟩, run_enter f1 f2 f3, (hcall args u hpv hp hu base c vals H hb G hv).mono ?_⟩
        rintro e w' ⟨c', a1, a2, a3, a4, a5⟩
        exact ⟨c', a1, a2, a3, a4.toL 1, a5⟩
    · split at h
      · cases h
      rename_i fn hfn
      split at h
      case isFalse => cases h
      rename_i hlen
      split at h
      · rename_i hg
        obtain ⟨F, code, f1, f2, f3, f4, f5, f6⟩ := (Fs.fn f fn hfn hg).out
        refine ⟨f, ⟨vals⟩, run_enter f1 (by rw [f2]; rfl) f6, ?_⟩
        have hFR := frame0_FR hv (n := fn.ntmps) hlen
        refine calls_of_wp f1 f2 ?_
        rw [f4]
        cases hc : aCode E (site fn (aRun E n)) (dcall (aRun E n)) n 1 fn fn.body ⟨frame0 args 0, c.h⟩ with
        | none => rw [hc] at h; simp [finA] at h
        | some q =>
        obtain ⟨ex, s⟩ := q
        rw [hc] at h
        have R := aRun_sound O Fs D n
        refine wp_mono (aCode_sound O D (site_ok R fn) (dcall_ok R) (dcall_cp _) (Ds := []) (L := 1) (base := base) rfl code fn.body f3 ⟨frame0 args 0, c.h⟩ ex s hc c
          { tmps := (⟨vals⟩ : Array Value) ++ Array.replicate (fn.ntmps - (⟨vals⟩ : Array Value).size) undef, defers := [] } H hb G rfl hFR rfl) ?_
        rintro e a' w' ⟨c1, rfl, q2, q3, q4, q5, q6, q7⟩
        have good : finA E fn (some (.ret, s)) = some (r, h') → a'.defers = [] ∧ ∃ u, (results F a'.tmps).run P c1.w = .ok u c1.w ∧ ∃ c', c'.w = c1.w ∧ c'.h = h' ∧ HR base c' ∧ ExtL 1 base c c' ∧ ResR c' r (.returned u) := fun hf => by
          obtain ⟨z1, u, z2, z3⟩ := fin_sound O q3 q2 q5 f5 hf
          exact ⟨q6, u, z2, c1, rfl, z1, q3, q4, z3⟩
        cases ex with
        | exit i => simp [finA] at h
        | normal => obtain rfl := q7; exact good h
        | ret => obtain rfl := q7; exact good h
        | panic ch =>
          obtain ⟨chain, rfl, z1, z2⟩ := q7
          simp only [finA, Option.some.injEq, Prod.mk.injEq] at h
          obtain ⟨rfl, rfl⟩ := h
          exact ⟨q6, c1, rfl, q2, q3, q4, chain, rfl, z1, z2⟩
      · rename_i gd hg
        exact grd_sound O D (aRun_sound O Fs D n) (Fs.grd f fn gd hfn hg) H hb G hv hlen h
theorem aCall_sound {P E} (O : EnvOK P E) (Fs : FnsOK P E) (D : DrawSound P E) (n : Nat) : CallOK P E (aCall E n) := sealed_ok (aRun_sound O Fs D n)

end Ab
