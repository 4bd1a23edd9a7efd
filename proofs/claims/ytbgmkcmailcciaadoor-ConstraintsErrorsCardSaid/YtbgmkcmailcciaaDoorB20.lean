/- Calls of the evaluator: what is handed over, lent and given back. Own work, no conditions. -/
import Derived.Test.YtbgmkcmailcciaaDoorB19
set_option linter.unusedVariables false
set_option linter.unusedSimpArgs false
namespace Ab
open Go

structure FnOK (P : Program) (f : FuncId) (fn : AFn) : Prop where
  out : ∃ F code, P.funcs[f]? = some F ∧ F.body = some code ∧ eraseC fn.dyn code = some fn.body ∧ F.ntmps = fn.ntmps ∧ F.results.toList = fn.results ∧ (F.name == "runtime.NumGoroutine") = false
/-- A function that the evaluator takes as known. -/
structure PrimOK (P : Program) (E : Env) (f : FuncId) (p : List AV → Option AV) : Prop where
  fn : ∃ F, P.funcs[f]? = some F ∧ F.body.isNone = false ∧ (F.name == "runtime.NumGoroutine") = false
  call : ∀ args v, p args = some v → AV.pureL args = true → v.pure = true → ∀ base c vals, HR base c → base ≤ c.w.heap.size → GOK E c → RVs c args vals →
    Calls P f ⟨vals⟩ c.w fun e w' => ∃ c', c'.w = w' ∧ c'.h = c.h ∧ HR base c' ∧ Ext base c c' ∧ ∃ val, e = .returned val ∧ RV c' v val

theorem run_enter {P : Program} {f : FuncId} {F : Func} {args : Array Value} {w : World} (h : P.funcs[f]? = some F) (hb : F.body.isNone = false) (hn : (F.name == "runtime.NumGoroutine") = false) : (callFunc f args).run P w = .ok (.enter f args) w := by
  have hn' : ¬ (F.name = "runtime.NumGoroutine") := by simpa using hn
  have hb' : ¬ (F.body = none) := by intro e; rw [e] at hb; cases hb
  simp [callFunc, h, hn', hb']

theorem frame0_get : ∀ (args : List AV) (k i : Nat) v, lookT (frame0 args k) i = some v → k ≤ i ∧ args[i - k]? = some v
  | [], k, i, v, h => by simp [frame0, lookT] at h
  | x :: r, k, i, v, h => by
    unfold frame0 at h
    rw [lookT_cons] at h
    split at h
    · rename_i e; subst e; cases h; simp
    · rename_i e
      obtain ⟨h1, h2⟩ := frame0_get r (k + 1) i v h
      refine ⟨by omega, ?_⟩
      rw [show i - k = (i - (k + 1)) + 1 by omega]
      simpa using h2

theorem frame0_FR {c : Cx} {args : List AV} {vals : List Value} (h : RVs c args vals) {n : Nat} (hn : args.length ≤ n) : FR c n (frame0 args 0) ((⟨vals⟩ : Array Value) ++ Array.replicate (n - (⟨vals⟩ : Array Value).size) undef) := by
  have hl := h.length
  refine ⟨by simp; omega, fun i v hi => ?_⟩
  obtain ⟨_, h2⟩ := frame0_get args 0 i v hi
  obtain ⟨u, q1, q2⟩ := h.get (by simpa using h2)
  have hlt := (List.getElem?_eq_some_iff.1 q1).1
  rw [Array.getD_eq_getD_getElem?, Array.getElem?_append_left (by simpa using hlt)]
  rw [show (⟨vals⟩ : Array Value)[i]? = vals[i]? from by simp, q1]
  exact q2

def resS (tmps : Array Value) : ResultVar → Sem Value
  | .tmp t => pure (tmps.getD t undef)
  | .cell a t => do loadVar t (← asAddr (tmps.getD a undef))
theorem resA_sound {P E} (O : EnvOK P E) {base c n t} {tmps : Array Value} (H : HR base c) (F : FR c n t tmps) {r v} (h : resA E t c.h r = some v) :
    Comp P c (resS tmps r) v := by
  cases r with
  | tmp i => exact ⟨_, rfl, F.2 i v h⟩
  | cell a ty =>
    simp only [resA] at h
    split at h
    case h_2 => cases h
    rename_i p τ hp hτ
    cases hr : readC c.h p τ.size with
    | none => rw [hr] at h; cases h
    | some cs =>
      rw [hr] at h
      have hv := F.2 a p hp
      obtain ⟨u, q1, q2⟩ := load_sound O H hτ hr h hv
      refine ⟨u, ?_, q2⟩
      obtain ⟨b, off, vs, e, _⟩ := readC_sound H hr hv
      rw [e] at q1
      simp only [resS]
      rw [e]
      simpa [Instr.loadAt, Instr.sureAddr, asAddr] using q1
theorem resL_sound {P E} (O : EnvOK P E) {base c n t} {tmps : Array Value} (H : HR base c) (F : FR c n t tmps) : ∀ {rs : List ResultVar} {vs}, resL E t c.h rs = some vs →
    ∃ us, (rs.mapM (resS tmps)).run P c.w = .ok us c.w ∧ RVs c vs us
  | [], vs, h => by simp [resL] at h; subst h; exact ⟨[], by simp, .nil⟩
  | r :: rs, vs, h => by
    simp only [resL] at h
    split at h
    · rename_i v l e1 e2
      cases h
      obtain ⟨u, q1, q2⟩ := resA_sound O H F e1
      obtain ⟨us, q3, q4⟩ := resL_sound O H F e2
      exact ⟨u :: us, by simp only [List.mapM_cons, Sem.run_bind, q1, Result.andThen_ok, q3, Sem.run_pure], .cons _ _ _ _ q2 q4⟩
    · cases h
theorem results_sound {P E} (O : EnvOK P E) {base c n t} {tmps : Array Value} (H : HR base c) (F : FR c n t tmps) {fn : Func} {vs} (h : resL E t c.h fn.results.toList = some vs) :
    Comp P c (results fn tmps) (results1 vs) := by
  obtain ⟨us, q1, q2⟩ := resL_sound O H F h
  have e : (results fn tmps).run P c.w = .ok (if h : us.toArray.size = 1 then us.toArray[0] else .tuple us.toArray) c.w := by
    unfold results
    simp only [Array.mapM_eq_mapM_toList, Sem.run_bind, Sem.run_map]
    have : ∀ f g : ResultVar → Sem Value, (∀ r, f r = g r) → fn.results.toList.mapM f = fn.results.toList.mapM g := fun f g h => by rw [show f = g from funext h]
    rw [this _ (resS tmps) (fun r => by cases r <;> rfl), q1]
    simp
  refine ⟨_, e, ?_⟩
  cases q2 with
  | nil => exact .tup _ _ .nil
  | cons x v xs vs h1 h2 =>
    cases h2 with
    | nil => simpa [results1] using h1
    | cons y u ys us h3 h4 =>
      have : ¬ ((v :: u :: us).toArray.size = 1) := by simp
      rw [dif_neg this]
      exact .tup _ _ (.cons _ _ _ _ h1 (.cons _ _ _ _ h3 h4))

/-- A call that leaves the caller's things alone tells the same wherever it stands. -/
theorem sealed_pure (run : RunF) : ∀ lvl f args h v h', AV.pureL args = true → sealed run lvl f args h = some (.ret v, h') → h' = h ∧ ∀ h2, sealed run lvl f args h2 = some (.ret v, h2) := by
  intro lvl f args h v h' hp e
  unfold sealed at e ⊢
  rw [sealL_of_pure 19 args h hp] at e
  simp only [hp, if_true] at e
  have key : ∀ q, sealR h q = some (.ret v, h') → h' = h ∧ ∀ h2, sealR h2 q = some (.ret v, h2) := by
    intro q hq
    unfold sealR at hq ⊢
    split at hq
    · split at hq
      case h_2 => cases hq
      rename_i u _ hs
      split at hq
      case isFalse => cases hq
      rename_i hu
      cases hq
      exact ⟨rfl, fun h2 => by simp [hs, hu]⟩
    · split at hq <;> simp at hq
    · cases hq
  obtain ⟨k1, k2⟩ := key _ e
  refine ⟨k1, fun h2 => ?_⟩
  rw [sealL_of_pure 19 args h2 hp]
  simp only [hp, if_true]
  exact k2 h2

/-- Two heaps that agree, but for what may be written, on some keys whose things hold plain values. -/
def SimK (K : List Key) (h h2 : Heap) : Prop := ∀ k ∈ K, ∃ o o2, lookK h k = some o ∧ lookK h2 k = some o2 ∧ o2 = { o with mt := o2.mt } ∧ AV.pureL o.cells = true
theorem sealL_pure_inv (n : Nat) : ∀ (l : List AV) (h : Heap) l' h', AV.pureL l = true → sealLW (sealA n) h l = some (l', h') → l' = l ∧ h' = h ∧ ∀ h2, sealLW (sealA n) h2 l = some (l, h2)
  | [], h, l', h', _, e => by simp [sealLW] at e; obtain ⟨rfl, rfl⟩ := e; exact ⟨rfl, rfl, fun _ => rfl⟩
  | x :: r, h, l', h', hp, e => by
    simp only [AV.pureL, Bool.and_eq_true] at hp
    cases n with
    | zero => simp [sealLW, sealA] at e
    | succ n =>
      have hpl : AV.pureL (x :: r) = true := by simp [AV.pureL, hp.1, hp.2]
      rw [sealL_of_pure n _ _ hpl] at e
      cases e
      exact ⟨rfl, rfl, fun h2 => sealL_of_pure n _ _ hpl⟩
mutual
theorem sealA_sim {K : List Key} : ∀ (n : Nat) (v : AV) (h h2 : Heap) v' h', sealA n h v = some (v', h') → (∀ k ∈ v.keys, k ∈ K) → SimK K h h2 → ∃ h2', sealA n h2 v = some (v', h2') ∧ SimK K h' h2'
  | 0, v, h, h2, v', h', e, _, _ => by simp [sealA] at e
  | n + 1, v, h, h2, v', h', e, hk, S => by
    unfold sealA at e ⊢
    split at e
    · rename_i hp; rw [if_pos hp]; cases e; exact ⟨h2, rfl, S⟩
    · rename_i hp
      rw [if_neg hp]
      split at e
      · rename_i key off len cap
        obtain ⟨o, o2, e1, e2, e3, e4⟩ := S key (hk key (by simp [AV.keys]))
        rw [e1] at e
        simp only at e
        split at e
        case isFalse => cases e
        rename_i hc
        split at e
        case h_2 => cases e
        rename_i cs hh hs
        cases e
        have hpl : AV.pureL ((o.cells.drop off).take (len * o.esz)) = true := by
          rw [AV.pureL_all] at e4 ⊢
          exact fun x hx => e4 x (List.mem_of_mem_drop (List.mem_of_mem_take hx))
        obtain ⟨rfl, rfl, hall⟩ := sealL_pure_inv n _ _ _ _ hpl hs
        have c2 : o2.cells = o.cells := by rw [e3]
        have c3 : o2.live = o.live := by rw [e3]
        have c4 : o2.esz = o.esz := by rw [e3]
        have c5 : o2.eagg = o.eagg := by rw [e3]
        rw [e2]
        simp only [c2, c3, c4, c5]
        rw [if_pos hc, hall]
        refine ⟨_, rfl, ?_⟩
        intro k hkk
        obtain ⟨p, p2, q1, q2, q3, q4⟩ := S k hkk
        rw [lookK_setK, lookK_setK]
        split
        · rename_i ek; subst ek
          rw [e1] at q1; cases q1
          rw [e2] at q2; cases q2
          refine ⟨_, _, rfl, rfl, ?_, e4⟩
          rw [e3]
        · exact ⟨p, p2, q1, q2, q3, q4⟩
      · rename_i cs
        split at e
        case h_2 => cases e
        rename_i l hh hs
        split at e
        case isFalse => cases e
        rename_i hsc
        cases e
        obtain ⟨h2', a1, a2⟩ := sealL_sim n cs h h2 l _ hs (by simpa [AV.keys] using hk) S
        rw [a1]
        simp only
        rw [if_pos hsc]
        exact ⟨h2', rfl, a2⟩
      · rename_i cs
        split at e
        case h_2 => cases e
        rename_i l hh hs
        cases e
        obtain ⟨h2', a1, a2⟩ := sealL_sim n cs h h2 l _ hs (by simpa [AV.keys] using hk) S
        rw [a1]
        exact ⟨h2', rfl, a2⟩
      · cases e
theorem sealL_sim {K : List Key} : ∀ (n : Nat) (l : List AV) (h h2 : Heap) l' h', sealLW (sealA n) h l = some (l', h') → (∀ k ∈ AV.keysL l, k ∈ K) → SimK K h h2 → ∃ h2', sealLW (sealA n) h2 l = some (l', h2') ∧ SimK K h' h2'
  | n, [], h, h2, l', h', e, _, S => by simp [sealLW] at e; obtain ⟨rfl, rfl⟩ := e; exact ⟨h2, rfl, S⟩
  | n, x :: r, h, h2, l', h', e, hk, S => by
    simp only [sealLW] at e ⊢
    split at e
    case h_2 => cases e
    rename_i y h1 e1
    split at e
    case h_2 => cases e
    rename_i l2 hh2 e2
    cases e
    obtain ⟨g1, a1, a2⟩ := sealA_sim n x h h2 y h1 e1 (fun k hm => hk k (by simp [AV.keysL, hm])) S
    obtain ⟨g2, b1, b2⟩ := sealL_sim n r h1 g1 l2 _ e2 (fun k hm => hk k (by simp [AV.keysL, hm])) a2
    rw [a1]
    simp only
    rw [b1]
    exact ⟨g2, rfl, b2⟩
end
theorem pureKs_get {h : Heap} : ∀ {l : List Key}, pureKs h l = true → ∀ k ∈ l, ∃ o, lookK h k = some o ∧ AV.pureL o.cells = true
  | [], _, k, hk => by cases hk
  | q :: r, hp, k, hk => by
    simp only [pureKs, Bool.and_eq_true] at hp
    rcases List.mem_cons.1 hk with rfl | hk
    · cases e : lookK h k with
      | none => rw [e] at hp; simp at hp
      | some o => rw [e] at hp; exact ⟨o, rfl, hp.1⟩
    · exact pureKs_get hp.2 k hk
theorem pureKs_agree {h h2 : Heap} : ∀ {l : List Key}, (∀ k ∈ l, lookK h2 k = lookK h k) → pureKs h2 l = pureKs h l
  | [], _ => rfl
  | q :: r, ha => by
    simp only [pureKs, ha q (by simp), pureKs_agree (l := r) fun k hk => ha k (by simp [hk])]
theorem lookR_some {h x v h'} (e : lookR h x = some (.ret v, h')) : h' = h ∧ flatR v = true ∧ ∃ g, x = some (.ret v, g) := by
  unfold lookR at e
  split at e
  · split at e
    · rename_i hf; cases e; exact ⟨rfl, hf, _, rfl⟩
    · cases e
  · cases e
theorem dcall_cp (run : RunF) : CP (dcall run) := by
  intro lvl f args h v h' e
  unfold dcall at e ⊢
  split at e
  · rename_i hp
    obtain ⟨k1, k2⟩ := sealed_pure run 0 f args h v h' hp e
    exact ⟨k1, fun h2 _ => by rw [if_pos hp]; exact k2 h2⟩
  · rename_i hp
    split at e
    case h_2 => cases e
    rename_i args' h1 hs
    split at e
    case isFalse => cases e
    rename_i hc
    obtain ⟨rfl, hf, g, hg⟩ := lookR_some e
    refine ⟨rfl, fun h2 ha => ?_⟩
    rw [if_neg hp]
    have S : SimK (AV.keysL args) h' h2 := fun k hk => by
      obtain ⟨o, o1, o2⟩ := pureKs_get hc.2 k hk
      exact ⟨o, o, o1, (ha k hk).trans o1, rfl, o2⟩
    obtain ⟨h2', a1, _⟩ := sealL_sim 20 args h' h2 args' h1 hs (fun k hk => hk) S
    rw [a1]
    simp only
    rw [if_pos ⟨hc.1, (pureKs_agree ha).trans hc.2⟩]
    obtain ⟨_, q⟩ := sealed_pure run 0 f args' h' v g hc.1 hg
    rw [q h2]
    simp [lookR, hf]

theorem RV.flat {c c' : Cx} {x v} (h : RV c x v) (hf : flatV x = true) : RV c' x v := by
  cases h <;> first | (simp [flatV] at hf; done) | (constructor <;> assumption) | constructor
theorem RV.flatR {c c' : Cx} {x v} (h : RV c x v) (hf : Ab.flatR x = true) : RV c' x v := by
  have lst : ∀ {xs vs}, RVs c xs vs → xs.all flatV = true → RVs c' xs vs := by
    intro xs vs hx ha
    refine .of_get hx.length fun i y w hy hw => ?_
    obtain ⟨w2, q1, q2⟩ := hx.get hy
    rw [hw] at q1; cases q1
    exact q2.flat (List.all_eq_true.1 ha y (List.mem_of_getElem? hy))
  cases h with
  | agg cs vs h hs => exact .agg cs vs (lst h (by simpa [Ab.flatR] using hf)) hs
  | tup cs vs h => exact .tup cs vs (lst h (by simpa [Ab.flatR] using hf))
  | _ => exact RV.flat (c := c) (by constructor <;> assumption) hf

/-! ### Other keys -/
mutual
theorem RV.rn {c c' : Cx} {φ : Key → Key} (hR : ∀ b, c.Rd b → c'.Rd b ∧ c'.w.heap[b]? = c.w.heap[b]?) : ∀ {x v}, RV c x v → (∀ k ∈ x.keys, c.Vk k → c'.Vk (φ k) ∧ c'.m (φ k) = c.m k) → RV c' (x.rn φ) v
  | _, _, .int k n, _ => .int k n
  | _, _, .bool b, _ => .bool b
  | _, _, .str l s h, _ => .str l s h
  | _, _, .agg cs vs h hs, hk => .agg _ vs (RVs.rn hR h hk) (rnL_scal cs hs)
  | _, _, .tup cs vs h, hk => .tup _ vs (RVs.rn hR h hk)
  | _, _, .slE f a cap cap' h1 h2 h3, _ => .slE f a cap cap' h1 h2 h3
  | _, _, .slC xs vs b off esz cap cap' hne h hv hp hb hc hl hcap, _ =>
    .slC xs vs b off esz cap cap' hne (RVs.mono hR h (by rw [AV.keysL_pure xs ((AV.pureL_all xs).2 hp)]; simp)) hv hp (hR b hb).1
      (fun i cell hi => by have := hc i cell hi; rw [← this]; exact World.cell?_of_block (hR b hb).2) hl hcap
  | _, _, .ref k off len cap cap' h1 h2 h3 h4, hk => by
    have := hk k (by simp [AV.keys]) h1
    rw [show c.mu k = c'.mu (φ k) from (congrArg Prod.fst this.2).symm]
    exact .ref (φ k) off len cap cap' this.1 h2 h3 (by rw [this.2]; exact h4)
  | _, _, .ptr k off h1, hk => by
    have := hk k (by simp [AV.keys]) h1
    rw [show c.mu k = c'.mu (φ k) from (congrArg Prod.fst this.2).symm]
    exact .ptr (φ k) off this.1
  | _, _, .pel cs vs b off h hs hp hb hc, _ =>
    .pel cs vs b off (RVs.mono hR h (by rw [AV.keysL_pure cs ((AV.pureL_all cs).2 hp)]; simp)) hs hp (hR b hb).1
      (fun i cell hi => by have := hc i cell hi; rw [← this]; exact World.cell?_of_block (hR b hb).2)
  | _, _, .nilp, _ => .nilp
  | _, _, .fn f a b va vb h1 h2, hk => .fn f _ _ va vb (RVs.rn hR h1 fun k hm => hk k (by simp [AV.keys, hm])) (RVs.rn hR h2 fun k hm => hk k (by simp [AV.keys, hm]))
  | _, _, .nilf, _ => .nilf
  | _, _, .iface t x v h, hk => .iface t _ v (RV.rn hR h hk)
  | _, _, .nili, _ => .nili
theorem RVs.rn {c c' : Cx} {φ : Key → Key} (hR : ∀ b, c.Rd b → c'.Rd b ∧ c'.w.heap[b]? = c.w.heap[b]?) : ∀ {xs vs}, RVs c xs vs → (∀ k ∈ AV.keysL xs, c.Vk k → c'.Vk (φ k) ∧ c'.m (φ k) = c.m k) → RVs c' (AV.rnL φ xs) vs
  | _, _, .nil, _ => .nil
  | _, _, .cons x v xs vs h1 h2, hk => .cons _ v _ vs (RV.rn hR h1 fun k hm => hk k (by simp [AV.keysL, hm])) (RVs.rn hR h2 fun k hm => hk k (by simp [AV.keysL, hm]))
theorem rnL_scal {φ : Key → Key} : ∀ (xs : List AV), (∀ x ∈ xs, x.scal = true) → ∀ x ∈ AV.rnL φ xs, x.scal = true
  | [], _, x, hx => by simp [AV.rnL] at hx
  | y :: ys, h, x, hx => by
    simp only [AV.rnL, List.mem_cons] at hx
    rcases hx with rfl | hx
    · have := h y (by simp)
      cases y <;> first | rfl | simp [AV.scal] at this
    · exact rnL_scal ys (fun z hz => h z (by simp [hz])) x hx
end
theorem rn_scal {φ : Key → Key} (x : AV) : (x.rn φ).scal = x.scal := by cases x <;> rfl
theorem rnL_length {φ : Key → Key} : ∀ xs : List AV, (AV.rnL φ xs).length = xs.length
  | [] => rfl
  | _ :: xs => by simp [AV.rnL, rnL_length xs]
theorem rnL_get {φ : Key → Key} : ∀ (xs : List AV) (i : Nat), (AV.rnL φ xs)[i]? = (xs[i]?).map (AV.rn φ)
  | [], i => by simp [AV.rnL]
  | x :: xs, 0 => by simp [AV.rnL]
  | x :: xs, i + 1 => by simpa [AV.rnL] using rnL_get xs i

theorem mem_keysL_get {l : List AV} {i : Nat} {x : AV} (h : l[i]? = some x) : ∀ q ∈ x.keys, q ∈ AV.keysL l := by
  induction l generalizing i with
  | nil => simp at h
  | cons y l ih =>
    intro q hq
    simp only [AV.keysL, List.mem_append]
    cases i with
    | zero => simp at h; subst h; exact .inl hq
    | succ i => exact .inr (ih (by simpa using h) q hq)

theorem inKs_mem {ks : List Key} {k : Key} (h : inKs ks k = true) : k ∈ ks := by
  unfold inKs at h
  rw [List.any_eq_true] at h
  obtain ⟨q, h1, h2⟩ := h
  have : q = k := by simpa using h2
  exact this ▸ h1
theorem allKs_mem {all l : List Key} (h : l.all (inKs all) = true) : ∀ k ∈ l, k ∈ all := fun k hk => inKs_mem (List.all_eq_true.1 h k hk)

theorem dd_nodup : ∀ l : List Key, (dd l).Nodup
  | [] => .nil
  | k :: r => by
    unfold dd
    rw [List.nodup_cons]
    exact ⟨by simp, (dd_nodup r).filter _⟩
theorem posK_some : ∀ {ks : List Key} {k : Key} {i}, posK ks k = some i → ks[i]? = some k
  | [], k, i, h => by simp [posK] at h
  | q :: r, k, i, h => by
    unfold posK at h
    split at h
    · rename_i e; cases h; simp [e]
    · obtain ⟨j, h1, rfl⟩ := map_some h
      simpa using posK_some h1
theorem posK_mem : ∀ {ks : List Key} {k : Key}, k ∈ ks → ∃ i, posK ks k = some i
  | [], k, h => by cases h
  | q :: r, k, h => by
    unfold posK
    split
    · exact ⟨0, rfl⟩
    · rename_i e
      obtain ⟨i, hi⟩ := posK_mem (ks := r) (k := k) ((List.mem_cons.1 h).resolve_left fun x => e x.symm)
      exact ⟨i + 1, by rw [hi]; rfl⟩
theorem get_inj {l : List Key} (hn : l.Nodup) {i j : Nat} {k : Key} (h1 : l[i]? = some k) (h2 : l[j]? = some k) : i = j := by
  obtain ⟨a1, a2⟩ := List.getElem?_eq_some_iff.1 h1
  obtain ⟨b1, b2⟩ := List.getElem?_eq_some_iff.1 h2
  exact (List.getElem_inj hn).1 (a2.trans b2.symm)

theorem closedH_get {h : Heap} {all : List Key} : ∀ {l : List Key}, closedH h all l = true → ∀ k ∈ l, ∃ o, lookK h k = some o ∧ ∀ q ∈ AV.keysL o.cells, q ∈ all
  | [], _, k, hk => by cases hk
  | x :: r, hc, k, hk => by
    simp only [closedH, Bool.and_eq_true] at hc
    rcases List.mem_cons.1 hk with rfl | hk
    · cases e : lookK h k with
      | none => rw [e] at hc; simp at hc
      | some o => rw [e] at hc; exact ⟨o, rfl, allKs_mem hc.1⟩
    · exact closedH_get hc.2 k hk

theorem lendH_get {h : Heap} {φ : Key → Key} : ∀ {l : List Key} {hl}, lendH h φ l = some hl → (∀ k ∈ l, ∀ k' ∈ l, φ k = φ k' → k = k') →
    (∀ k ∈ l, ∃ o, lookK h k = some o ∧ lookK hl (φ k) = some { o with cells := AV.rnL φ o.cells }) ∧ (∀ q o, lookK hl q = some o → ∃ k ∈ l, q = φ k ∧ ∃ o', lookK h k = some o' ∧ o = { o' with cells := AV.rnL φ o'.cells })
  | [], hl, e, _ => by
    simp [lendH] at e; subst e
    exact ⟨fun k hk => (by cases hk), fun q o hq => (by simp [lookK] at hq)⟩
  | k :: r, hl, e, hi => by
    simp only [lendH] at e
    split at e
    case h_2 => cases e
    rename_i o l e1 e2
    cases e
    obtain ⟨a1, a2⟩ := lendH_get e2 fun x hx y hy => hi x (by simp [hx]) y (by simp [hy])
    refine ⟨fun q hq => ?_, fun q o2 hq => ?_⟩
    · by_cases e : q = k
      · subst e; exact ⟨o, e1, by simp [lookK]⟩
      · obtain ⟨o2, b1, b2⟩ := a1 q ((List.mem_cons.1 hq).resolve_left e)
        refine ⟨o2, b1, ?_⟩
        simp only [lookK]
        rw [if_neg fun x => e (hi q hq k (by simp) x.symm)]
        exact b2
    · simp only [lookK] at hq
      split at hq
      · rename_i e; cases hq; exact ⟨k, by simp, e.symm, o, e1, rfl⟩
      · obtain ⟨k', b1, b2⟩ := a2 q o2 hq
        exact ⟨k', by simp [b1], b2⟩

theorem putAll_in {h2 : Heap} {ψ : Key → Key} : ∀ {l : List Key} {h : Heap} {k : Key} {o}, (∀ x ∈ l, ψ x = ψ k → x = k) → lookK h2 k = some o → (k ∈ l ∨ lookK h (ψ k) = some { o with cells := AV.rnL ψ o.cells }) →
    lookK (putAll h2 ψ l h) (ψ k) = some { o with cells := AV.rnL ψ o.cells }
  | [], h, k, o, _, _, hk => by
    rcases hk with hk | hk
    · cases hk
    · exact hk
  | x :: r, h, k, o, hi, ho, hk => by
    unfold putAll
    refine putAll_in (fun y hy => hi y (by simp [hy])) ho ?_
    by_cases e : x = k
    · subst e
      rw [ho]
      exact .inr (lookK_setK_same _ _ _)
    · have hne : ψ x ≠ ψ k := fun h => e (hi x (by simp) h)
      rcases hk with hk | hk
      · exact .inl ((List.mem_cons.1 hk).resolve_left fun h => e h.symm)
      · right
        split
        · rw [lookK_setK_other _ _ _ _ hne]; exact hk
        · exact hk
theorem putAll_out {h2 : Heap} {ψ : Key → Key} : ∀ {l : List Key} {h : Heap} {q : Key}, (∀ x ∈ l, ψ x ≠ q) → lookK (putAll h2 ψ l h) q = lookK h q
  | [], h, q, _ => rfl
  | x :: r, h, q, hn => by
    unfold putAll
    rw [putAll_out fun y hy => hn y (by simp [hy])]
    split
    · exact lookK_setK_other _ _ _ _ (hn x (by simp))
    · rfl

/-- How the callee sees what it is lent. -/
def lentC (c : Cx) (ks : List Key) (hl : Heap) : Cx := ⟨c.w, c.Rd, fun k => c.m ((ks[k.2.2]?).getD k), hl⟩

theorem inK_of {ks : List Key} {k : Key} (h : k ∈ ks) : ∃ i, inK ks k = (0, 0, i) ∧ ks[i]? = some k := by
  obtain ⟨i, hi⟩ := posK_mem h
  exact ⟨i, by unfold inK; rw [hi], posK_some hi⟩
theorem inK_inj {ks : List Key} : ∀ k ∈ ks, ∀ k' ∈ ks, inK ks k = inK ks k' → k = k' := by
  intro k hk k' hk' e
  obtain ⟨i, h1, h2⟩ := inK_of hk
  obtain ⟨j, h3, h4⟩ := inK_of hk'
  rw [h1, h3] at e
  have : i = j := by simpa using e
  subst this
  rw [h2] at h4; cases h4; rfl

theorem lend_in {base c ks hl} (H : HR base c) (e : lendH c.h (inK ks) ks = some hl) (hcl : closedH c.h ks ks = true) :
    HR base (lentC c ks hl) ∧ (∀ x v, RV c x v → (∀ k ∈ x.keys, k ∈ ks) → RV (lentC c ks hl) (x.rn (inK ks)) v) ∧ (∀ b, (lentC c ks hl).Mut b → c.Mut b) ∧
    (∀ k ∈ ks, (lentC c ks hl).Vk (inK ks k) ∧ (lentC c ks hl).m (inK ks k) = c.m k) := by
  obtain ⟨a1, a2⟩ := lendH_get e inK_inj
  have vk : ∀ k ∈ ks, (lentC c ks hl).Vk (inK ks k) ∧ (lentC c ks hl).m (inK ks k) = c.m k := by
    intro k hk
    obtain ⟨o, _, h2⟩ := a1 k hk
    refine ⟨⟨_, h2⟩, ?_⟩
    obtain ⟨i, h3, h4⟩ := inK_of hk
    show c.m _ = _
    rw [h3]
    show c.m ((ks[i]?).getD _) = _
    rw [h4]; rfl
  have mu : ∀ k ∈ ks, (lentC c ks hl).mu (inK ks k) = c.mu k := fun k hk => congrArg Prod.fst (vk k hk).2
  have rv : ∀ x v, RV c x v → (∀ k ∈ x.keys, k ∈ ks) → RV (lentC c ks hl) (x.rn (inK ks)) v := fun x v hx hk =>
    RV.rn (c := c) (c' := lentC c ks hl) (φ := inK ks) (fun b hb => ⟨hb, rfl⟩) hx fun k hk' _ => vk k (hk k hk')
  refine ⟨⟨?_, ?_, ?_, ?_, H.rd⟩, rv, ?_, vk⟩
  · intro q o hq hl'
    obtain ⟨k, hk, rfl, o', ho', rfl⟩ := a2 q o hq
    obtain ⟨arr, ty, fr, g1, g2, g3, g4, g4b, g5⟩ := H.obj k o' ho' hl'
    obtain ⟨o2, ho2, hcl2⟩ := closedH_get hcl k hk
    rw [ho'] at ho2; cases ho2
    refine ⟨arr, ty, fr, by rw [mu k hk]; exact g1, g2, by simpa [rnL_length] using g3, fun hx => by simpa [rnL_length] using g4 hx, fun hx => by rw [(vk k hk).2]; exact g4b hx, fun i x hx => ?_⟩
    rw [rnL_get] at hx
    obtain ⟨y, hy, rfl⟩ := map_some hx
    obtain ⟨v, q1, q2, q3⟩ := g5 i y hy
    exact ⟨v, q1, rv y v q2 fun q hq => hcl2 q (mem_keysL_get hy q hq), by rw [rn_scal]; exact q3⟩
  · intro q o hq hl' hm
    obtain ⟨k, hk, rfl, o', ho', rfl⟩ := a2 q o hq
    rw [mu k hk]
    exact H.mt k o' ho' hl' hm
  · intro q o hq hl' hm
    obtain ⟨k, hk, rfl, o', ho', rfl⟩ := a2 q o hq
    rw [mu k hk]
    exact H.sld k o' ho' hl' hm
  · intro q o q' o' hq hq' hl1 hl2 hm1 hm2 e
    obtain ⟨k, hk, rfl, ok, hok, rfl⟩ := a2 q o hq
    obtain ⟨k', hk', rfl, ok', hok', rfl⟩ := a2 q' o' hq'
    rw [mu k hk, mu k' hk'] at e
    rw [H.inj k ok k' ok' hok hok' hl1 hl2 hm1 hm2 e]
  · rintro b ⟨q, o, hq, hl', hm, rfl⟩
    obtain ⟨k, hk, rfl, o', ho', rfl⟩ := a2 q o hq
    exact ⟨k, o', ho', hl', hm, (mu k hk).symm⟩

theorem genOf_gt' {h : Heap} {l s g : Nat} {o : AObj} (h1 : lookK h (l, s, g) = some o) : g < genOf h l s := genOf_gt h l s g o h1

/-- What the callee gives back is the caller's. -/
theorem lend_out {base c ks hl c2 slot vs vals vs' h'} (H : HR base c) (hnd : ks.Nodup) (e : lendH c.h (inK ks) ks = some hl) (hcl : closedH c.h ks ks = true)
    (H2 : HR base c2) (X : ExtL 1 base (lentC c ks hl) c2) (hv : RVs c2 vs vals) (hb : back ks slot c.h c2.h vs = some (vs', h')) :
    ∃ c', c'.w = c2.w ∧ c'.h = h' ∧ HR base c' ∧ Ext base c c' ∧ RVs c' vs' vals ∧ (∀ b, c2.Rd b → c'.Rd b) := by
  obtain ⟨L1, L2, L3, L4⟩ := lend_in H e hcl
  unfold back at hb
  generalize hall : dd (reach c2.h 3 (lentKs ks.length ++ AV.keysL vs)) = all at hb
  have hand : all.Nodup := by rw [← hall]; exact dd_nodup _
  unfold backA at hb
  split at hb
  case isFalse => cases hb
  rename_i hcnd
  obtain ⟨k1, k2, k3, k4⟩ := hcnd
  generalize hns : all.filter (fun k => !decide (k.1 = 0)) = ns at hb
  generalize hG : genOf c.h 1 slot = G at hb
  simp only [Option.some.injEq, Prod.mk.injEq] at hb
  obtain ⟨rfl, rfl⟩ := hb
  generalize hψ : outK ks ns slot G = ψ
  -- the keys among them
  have cl := fun k hk => closedH_get (l := all) k1 k hk
  have lent : ∀ k ∈ all, k.1 = 0 → ∃ i q, k = (0, 0, i) ∧ ks[i]? = some q ∧ ψ k = q := by
    intro k hk h0
    have := List.all_eq_true.1 k2 k hk
    unfold okK at this
    rw [if_pos h0] at this
    have hh := of_decide_eq_true this
    obtain ⟨a, b, i⟩ := k
    simp only at h0 hh
    obtain ⟨rfl, hi⟩ := hh
    subst h0
    refine ⟨i, ks[i], rfl, by simp [hi], ?_⟩
    rw [← hψ]
    unfold outK
    simp [hi]
  have imp : ∀ k ∈ all, k.1 ≠ 0 → ∃ j, posK ns k = some j ∧ ψ k = (1, slot, G + j) := by
    intro k hk h0
    have hmem : k ∈ ns := by rw [← hns, List.mem_filter]; exact ⟨hk, by simpa using h0⟩
    obtain ⟨j, hj⟩ := posK_mem hmem
    refine ⟨j, hj, ?_⟩
    rw [← hψ]
    unfold outK
    rw [if_neg h0, hj]
  have ksIn : ∀ q ∈ ks, ∃ o, lookK c.h q = some o := fun q hq => by
    obtain ⟨o, h1, _⟩ := closedH_get hcl q hq
    exact ⟨o, h1⟩
  have fresh : ∀ j o, lookK c.h (1, slot, G + j) = some o → False := fun j o h => by
    have := genOf_gt' h
    omega
  have inj : ∀ x ∈ all, ∀ y ∈ all, ψ x = ψ y → x = y := by
    intro x hx y hy hxy
    by_cases x0 : x.1 = 0
    · obtain ⟨i, q, rfl, hi, hq⟩ := lent x hx x0
      by_cases y0 : y.1 = 0
      · obtain ⟨j, q', rfl, hj, hq'⟩ := lent y hy y0
        rw [hq, hq'] at hxy
        subst hxy
        rw [get_inj hnd hi hj]
      · obtain ⟨j, _, hq'⟩ := imp y hy y0
        rw [hq, hq'] at hxy
        obtain ⟨o, ho⟩ := ksIn q (List.mem_of_getElem? hi)
        rw [hxy] at ho
        exact (fresh j o ho).elim
    · obtain ⟨i, hi, hq⟩ := imp x hx x0
      by_cases y0 : y.1 = 0
      · obtain ⟨j, q', rfl, hj, hq'⟩ := lent y hy y0
        rw [hq, hq'] at hxy
        obtain ⟨o, ho⟩ := ksIn q' (List.mem_of_getElem? hj)
        rw [← hxy] at ho
        exact (fresh i o ho).elim
      · obtain ⟨j, hj, hq'⟩ := imp y hy y0
        rw [hq, hq'] at hxy
        have : i = j := by simpa using hxy
        subst this
        have e1 := posK_some hi
        have e2 := posK_some hj
        rw [e1] at e2; cases e2; rfl
  have look : ∀ k ∈ all, ∀ o, lookK c2.h k = some o → lookK (putAll c2.h ψ all c.h) (ψ k) = some { o with cells := AV.rnL ψ o.cells } := fun k hk o ho =>
    putAll_in (fun x hx => inj x hx k hk) ho (.inl hk)
  have other : ∀ q, (∀ k ∈ all, ψ k ≠ q) → lookK (putAll c2.h ψ all c.h) q = lookK c.h q := fun q hq => putAll_out hq
  -- the blocks behind the keys
  let m' : Key → Nat × Nat := fun q => match all.find? (fun k => !decide (k.1 = 0) && decide (ψ k = q)) with
    | some k => c2.m k
    | none => c.m q
  have mOld : ∀ q o, lookK c.h q = some o → m' q = c.m q := by
    intro q o ho
    show (match all.find? _ with | some k => c2.m k | none => c.m q) = _
    cases hf : all.find? (fun k => !decide (k.1 = 0) && decide (ψ k = q)) with
    | none => rfl
    | some k =>
      exfalso
      have h1 := List.find?_some hf
      have h2 := List.mem_of_find?_eq_some hf
      simp only [Bool.and_eq_true, Bool.not_eq_true', decide_eq_false_iff_not, decide_eq_true_eq] at h1
      obtain ⟨j, _, hj⟩ := imp k h2 h1.1
      rw [h1.2] at hj
      rw [hj] at ho
      exact fresh j o ho
  have mNew : ∀ k ∈ all, m' (ψ k) = c2.m k := by
    intro k hk
    by_cases h0 : k.1 = 0
    · obtain ⟨i, q, rfl, hi, hq⟩ := lent k hk h0
      have hqk := List.mem_of_getElem? hi
      obtain ⟨o, ho⟩ := ksIn q hqk
      rw [hq, mOld q o ho]
      obtain ⟨v1, v2⟩ := L4 q hqk
      obtain ⟨i', h3, h4⟩ := inK_of hqk
      have : i' = i := get_inj hnd h4 hi
      subst this
      rw [h3] at v1 v2
      have := (X.vk (0, 0, i') (by show 0 < 1; omega) v1).2
      rw [this, v2]
    · show (match all.find? _ with | some k => c2.m k | none => c.m _) = _
      cases hf : all.find? (fun x => !decide (x.1 = 0) && decide (ψ x = ψ k)) with
      | none =>
        exfalso
        have := List.find?_eq_none.1 hf k hk
        simp [h0] at this
      | some x =>
        have h1 := List.find?_some hf
        have h2 := List.mem_of_find?_eq_some hf
        simp only [Bool.and_eq_true, Bool.not_eq_true', decide_eq_false_iff_not, decide_eq_true_eq] at h1
        rw [inj x h2 k hk h1.2]
  let c' : Cx := ⟨c2.w, c2.Rd, m', putAll c2.h ψ all c.h⟩
  have muNew : ∀ k ∈ all, c'.mu (ψ k) = c2.mu k := fun k hk => congrArg Prod.fst (mNew k hk)
  have muOld : ∀ q o, lookK c.h q = some o → c'.mu q = c.mu q := fun q o ho => congrArg Prod.fst (mOld q o ho)
  -- each thing is either given back or as it was
  have cases' : ∀ q o, lookK c'.h q = some o → (∃ k ∈ all, q = ψ k ∧ ∃ o2, lookK c2.h k = some o2 ∧ o = { o2 with cells := AV.rnL ψ o2.cells }) ∨ ((∀ k ∈ all, ψ k ≠ q) ∧ lookK c.h q = some o) := by
    intro q o hq
    by_cases hx : ∃ k ∈ all, ψ k = q
    · obtain ⟨k, hk, rfl⟩ := hx
      obtain ⟨o2, ho2, _⟩ := cl k hk
      have := look k hk o2 ho2
      change lookK (putAll c2.h ψ all c.h) (ψ k) = _ at hq
      rw [this] at hq; cases hq
      exact .inl ⟨k, hk, rfl, o2, ho2, rfl⟩
    · have hx' : ∀ k ∈ all, ψ k ≠ q := fun k hk h => hx ⟨k, hk, h⟩
      refine .inr ⟨hx', ?_⟩
      change lookK (putAll c2.h ψ all c.h) q = _ at hq
      rwa [other q hx'] at hq
  have vkAll : ∀ q, c.Vk q → c'.Vk q ∧ c'.m q = c.m q := by
    rintro q ⟨o, ho⟩
    refine ⟨?_, mOld q o ho⟩
    by_cases hx : ∃ k ∈ all, ψ k = q
    · obtain ⟨k, hk, rfl⟩ := hx
      obtain ⟨o2, ho2, _⟩ := cl k hk
      exact ⟨_, look k hk o2 ho2⟩
    · exact ⟨o, (other q fun k hk h => hx ⟨k, hk, h⟩).trans ho⟩
  -- what was lent is all that the callee could turn
  have lentNot : ∀ q o, (∀ k ∈ all, ψ k ≠ q) → lookK c.h q = some o → o.live = true → ¬ (lentC c ks hl).Mut (c.mu q) := by
    rintro q o hq ho hlv ⟨p, op, hp, lp, mp, ep⟩
    obtain ⟨a1, a2⟩ := lendH_get e inK_inj
    obtain ⟨k, hk, rfl, o', ho', rfl⟩ := a2 p op hp
    have hk2 : (lentC c ks hl).mu (inK ks k) = c.mu k := congrArg Prod.fst (L4 k hk).2
    rw [hk2] at ep
    have hkq : k ≠ q := by
      obtain ⟨i, h3, h4⟩ := inK_of hk
      have hin : (0, 0, i) ∈ all := by
        refine allKs_mem k4 _ ?_
        unfold lentKs
        rw [List.mem_map]
        exact ⟨i, by rw [List.mem_range]; exact (List.getElem?_eq_some_iff.1 h4).1, rfl⟩
      obtain ⟨i', q', h5, h6, h7⟩ := lent _ hin rfl
      have : i' = i := by simpa using h5.symm
      subst this
      rw [h4] at h6; cases h6
      intro hkq
      exact hq _ hin (h7.trans hkq)
    cases hm : o.mt with
    | true => exact hkq (H.inj k o' q o ho' ho lp hlv mp hm ep)
    | false => exact (H.mt k o' ho' lp mp).1 (ep ▸ H.sld q o ho hlv hm)
  have stay : ∀ q o, (∀ k ∈ all, ψ k ≠ q) → lookK c.h q = some o → o.live = true → c2.w.heap[c.mu q]? = c.w.heap[c.mu q]? := by
    intro q o hq ho hlv
    obtain ⟨arr, _, _, h1, _⟩ := H.obj q o ho hlv
    exact X.frame _ (Array.getElem?_eq_some_iff.1 h1).1 (lentNot q o hq ho hlv)
  have rdmono : ∀ b, c.Rd b → c'.Rd b ∧ c'.w.heap[b]? = c.w.heap[b]? := fun b hb => ⟨X.rd b hb, X.frame b (H.rd b hb) fun hm => H.not_mut hb (L3 b hm)⟩
  have rvOld : ∀ x v, RV c x v → RV c' x v := fun x v hx => hx.mono (c := c) (c' := c') rdmono fun k _ hk => vkAll k hk
  have rvNew : ∀ x v, RV c2 x v → (∀ k ∈ x.keys, k ∈ all) → RV c' (x.rn ψ) v := fun x v hx hk =>
    RV.rn (c := c2) (c' := c') (φ := ψ) (fun b hb => ⟨hb, rfl⟩) hx fun k hk' _ => by
      obtain ⟨o2, ho2, _⟩ := cl k (hk k hk')
      exact ⟨⟨_, look k (hk k hk') o2 ho2⟩, mNew k (hk k hk')⟩
  have Hc : HR base c' := by
    refine ⟨?_, ?_, ?_, ?_, H2.rd⟩
    · intro q o hq hlv
      rcases cases' q o hq with ⟨k, hk, rfl, o2, ho2, rfl⟩ | ⟨hne, ho⟩
      · obtain ⟨arr, ty, fr, g1, g2, g3, g4, g4b, g5⟩ := H2.obj k o2 ho2 hlv
        obtain ⟨o3, ho3, hcl3⟩ := cl k hk
        rw [ho2] at ho3; cases ho3
        refine ⟨arr, ty, fr, by rw [muNew k hk]; exact g1, g2, by simpa [rnL_length] using g3, fun hx => by simpa [rnL_length] using g4 hx, fun hx => by show arr.size = (m' _).2 * _; rw [mNew k hk]; exact g4b hx, fun i x hx => ?_⟩
        rw [rnL_get] at hx
        obtain ⟨y, hy, rfl⟩ := map_some hx
        obtain ⟨v, q1, q2, q3⟩ := g5 i y hy
        exact ⟨v, q1, rvNew y v q2 fun p hp => hcl3 p (mem_keysL_get hy p hp), by rw [rn_scal]; exact q3⟩
      · obtain ⟨arr, ty, fr, g1, g2, g3, g4, g4b, g5⟩ := H.obj q o ho hlv
        refine ⟨arr, ty, fr, ?_, g2, g3, g4, fun hx => by show arr.size = (m' _).2 * _; rw [mOld q o ho]; exact g4b hx, fun i x hx => ?_⟩
        · rw [muOld q o ho]
          exact (stay q o hne ho hlv).trans g1
        · obtain ⟨v, q1, q2, q3⟩ := g5 i x hx
          exact ⟨v, q1, rvOld x v q2, q3⟩
    · intro q o hq hlv hm
      rcases cases' q o hq with ⟨k, hk, rfl, o2, ho2, rfl⟩ | ⟨hne, ho⟩
      · rw [muNew k hk]; exact H2.mt k o2 ho2 hlv hm
      · rw [muOld q o ho]
        have := H.mt q o ho hlv hm
        refine ⟨fun hr => ?_, this.2⟩
        rcases X.newrd _ hr with h | h | h
        · exact this.1 h
        · obtain ⟨arr, _, _, h1, _⟩ := H.obj q o ho hlv
          have h2 := (Array.getElem?_eq_some_iff.1 h1).1
          have h3 : c.w.heap.size ≤ c.mu q := h
          omega
        · exact lentNot q o hne ho hlv h
    · intro q o hq hlv hm
      rcases cases' q o hq with ⟨k, hk, rfl, o2, ho2, rfl⟩ | ⟨hne, ho⟩
      · rw [muNew k hk]; exact H2.sld k o2 ho2 hlv hm
      · rw [muOld q o ho]
        exact X.rd _ (H.sld q o ho hlv hm)
    · intro q o q' o' hq hq' hlv hlv' hm hm' ee
      have mixed : ∀ q o k o2, (∀ k ∈ all, ψ k ≠ q) → lookK c.h q = some o → o.live = true → lookK c2.h k = some o2 → o2.live = true → o2.mt = true → c.mu q = c2.mu k → False := by
        intro q o k o2 hne ho hlv ho2 hlv2 hm2 ee
        rcases X.newmut (c2.mu k) ⟨k, o2, ho2, hlv2, hm2, rfl⟩ with h | h
        · exact lentNot q o hne ho hlv (ee ▸ h)
        · obtain ⟨arr, _, _, h1, _⟩ := H.obj q o ho hlv
          have h2 := (Array.getElem?_eq_some_iff.1 h1).1
          have h3 : c.w.heap.size ≤ c2.mu k := h
          omega
      rcases cases' q o hq with ⟨k, hk, rfl, o2, ho2, rfl⟩ | ⟨hne, ho⟩
      · rcases cases' q' o' hq' with ⟨k', hk', rfl, o2', ho2', rfl⟩ | ⟨hne', ho'⟩
        · rw [muNew k hk, muNew k' hk'] at ee
          rw [H2.inj k o2 k' o2' ho2 ho2' hlv hlv' hm hm' ee]
        · rw [muNew k hk, muOld q' o' ho'] at ee
          exact (mixed q' o' k o2 hne' ho' hlv' ho2 hlv hm ee.symm).elim
      · rcases cases' q' o' hq' with ⟨k', hk', rfl, o2', ho2', rfl⟩ | ⟨hne', ho'⟩
        · rw [muOld q o ho, muNew k' hk'] at ee
          exact (mixed q o k' o2' hne ho hlv ho2' hlv' hm' ee).elim
        · rw [muOld q o ho, muOld q' o' ho'] at ee
          exact H.inj q o q' o' ho ho' hlv hlv' hm hm' ee
  refine ⟨c', rfl, rfl, Hc, ⟨X.os, X.tape, X.output, X.size, fun b hb hm => X.frame b hb fun h => hm (L3 b h), fun b hb => X.rd b hb, vkAll, fun b hb => ?_, ?_⟩, ?_, fun b h => h⟩
  · rcases X.newrd b hb with h | h | h
    · exact .inl h
    · exact .inr (.inl h)
    · exact .inr (.inr (L3 b h))
  · rintro b ⟨q, o, hq, hlv, hm, rfl⟩
    rcases cases' q o hq with ⟨k, hk, rfl, o2, ho2, rfl⟩ | ⟨hne, ho⟩
    · rw [muNew k hk]
      rcases X.newmut (c2.mu k) ⟨k, o2, ho2, hlv, hm, rfl⟩ with h | h
      · exact .inl (L3 _ h)
      · exact .inr h
    · rw [muOld q o ho]
      exact .inl ⟨q, o, ho, hlv, hm, rfl⟩
  · refine RVs.of_get (by rw [rnL_length, hv.length]) fun i x v hx hvv => ?_
    rw [rnL_get] at hx
    obtain ⟨y, hy, rfl⟩ := map_some hx
    obtain ⟨v2, q1, q2⟩ := hv.get hy
    rw [hvv] at q1; cases q1
    exact rvNew y v q2 fun p hp => allKs_mem k3 p (mem_keysL_get hy p hp)

end Ab
