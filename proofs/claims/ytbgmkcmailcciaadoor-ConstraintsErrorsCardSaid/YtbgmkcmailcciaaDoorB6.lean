/- The evaluator's computations are the model's. Own work, no conditions. -/
import Derived.Test.YtbgmkcmailcciaaDoorB5
set_option linter.unusedVariables false
set_option linter.unusedSimpArgs false
namespace Ab
open Go

def dOK : TypeDesc → Ty → Bool
  | .int k, .int k' => k == k'
  | .bool, .bool => true
  | .string, .str => true
  | .slice e, .slice e' => e == e'
  | .pointer e, .ptr e' => e == e'
  | .struct fs, .strct l => (fs.toList.map fun f => (f.offset, f.type)) == l
  | .array n e, .arr n' e' => n == n' && e == e'
  | .func .., .func => true
  | .interface ms, .iface e => e == ms.isEmpty
  | _, _ => false

structure TyOK (P : Program) (t : TypeId) (τ : TyI) : Prop where
  info : ∃ i z, P.info? t = some i ∧ i.size = τ.size ∧ i.bytes = τ.bytes ∧ i.zero = some z ∧ ofVL z.cells.toList = some τ.zero ∧ τ.zero.all AV.scal = true ∧ τ.zero.length = τ.size ∧ AV.pureL τ.zero = true
  desc : ∃ d, P.underlying t = some d ∧ dOK d τ.d = true

/-- Two flat values of a type are compared cell by cell. -/
def CmpOK (P : Program) (t : TypeId) (z : List AV) : Prop :=
  ∀ (c : Cx) cs ds vs us b (w : World) ox oy, fitZ z cs = true → eqL cs ds = some b → RVs c cs vs → RVs c ds us →
    (do eqGuard .eql t ox oy (.agg ⟨vs⟩) (.agg ⟨us⟩); binOp .eql t (.agg ⟨vs⟩) (.agg ⟨us⟩) : Sem Value).run P w = .ok (.bool b) w ∧
    (do eqGuard .neq t ox oy (.agg ⟨vs⟩) (.agg ⟨us⟩); binOp .neq t (.agg ⟨vs⟩) (.agg ⟨us⟩) : Sem Value).run P w = .ok (.bool (!b)) w

mutual
theorem ofV_sound (c : Cx) : ∀ (v : Value) (x : AV), ofV v = some x → RV c x v
  | .int k n, x, h => by simp [ofV] at h; subst h; exact .int k n
  | .bool b, x, h => by simp [ofV] at h; subst h; exact .bool b
  | .string s, x, h => by simp only [ofV, Option.some.injEq] at h; subst h; exact .str _ s rfl
  | .slice a l cap, x, h => by
    cases a with
    | none =>
      cases l with
      | zero => cases cap with
        | zero => simp [ofV] at h; subst h; exact .slE true none (some 0) 0 (by simp) (by simp) (by simp)
        | succ n => simp [ofV] at h
      | succ n => simp [ofV] at h
    | some a => simp [ofV] at h
  | .pointer a, x, h => by
    cases a with
    | none => simp [ofV] at h; subst h; exact .nilp
    | some a => simp [ofV] at h
  | .nilFunc, x, h => by simp [ofV] at h; subst h; exact .nilf
  | .nilIface, x, h => by simp [ofV] at h; subst h; exact .nili
  | .agg ⟨cs⟩, x, h => by
    simp only [ofV] at h
    cases e : ofVL cs with
    | none => simp [e] at h
    | some l =>
      simp only [e, Option.bind_some] at h
      split at h
      · rename_i hs
        cases h
        exact .agg _ _ (ofVL_sound c cs l e) (List.all_eq_true.1 hs)
      · cases h
  | .tuple ⟨cs⟩, x, h => by
    simp only [ofV] at h
    cases e : ofVL cs with
    | none => simp [e] at h
    | some l =>
      simp only [e, Option.map_some, Option.some.injEq] at h
      subst h
      exact .tup _ _ (ofVL_sound c cs l e)
  | .float .., x, h => by simp [ofV] at h
  | .complex .., x, h => by simp [ofV] at h
  | .map .., x, h => by simp [ofV] at h
  | .chan .., x, h => by simp [ofV] at h
  | .func .., x, h => by simp [ofV] at h
  | .iface .., x, h => by simp [ofV] at h
theorem ofVL_sound (c : Cx) : ∀ (vs : List Value) (xs : List AV), ofVL vs = some xs → RVs c xs vs
  | [], xs, h => by simp [ofVL] at h; subst h; exact .nil
  | v :: r, xs, h => by
    simp only [ofVL] at h
    split at h
    · rename_i x l e1 e2
      cases h
      exact .cons _ _ _ _ (ofV_sound c v x e1) (ofVL_sound c r l e2)
    · cases h
end

def GOK (E : Env) (c : Cx) : Prop := ∀ g cs, E.glob g = some cs → RV c (.pel cs) (.pointer (some ⟨g, 0, none⟩))

theorem opd_sound {E : Env} {c n t} {a : Act} (G : GOK E c) (hf : FR c n t a.tmps) {o x} (h : opd E t o = some x) : RV c x (a.eval o) := by
  cases o with
  | tmp i => exact hf.2 i x h
  | const v => exact ofV_sound c v x h
  | func f => simp [opd] at h; subst h; exact .fn f [] [] [] [] .nil .nil
  | global g =>
    simp only [opd] at h
    cases e : E.glob g with
    | none => simp [e] at h
    | some cs => simp [e] at h; subst h; exact G g cs e
theorem opdL_sound {E : Env} {c n t} {a : Act} (G : GOK E c) (hf : FR c n t a.tmps) : ∀ {os xs}, opdL E t os = some xs → RVs c xs (os.map a.eval)
  | [], xs, h => by simp [opdL] at h; subst h; exact .nil
  | o :: r, xs, h => by
    simp only [opdL] at h
    split at h
    · rename_i v l e1 e2
      cases h
      exact .cons _ _ _ _ (opd_sound G hf e1) (opdL_sound G hf e2)
    · cases h

theorem str_eq {s s' : ByteArray} : ((s.toList == s'.toList) : Bool) = decide ((s.data.toList.map fun b => (b.toNat : Int)) = (s'.data.toList.map fun b => (b.toNat : Int))) := by
  rw [ByteArray.toList_eq, ByteArray.toList_eq]
  by_cases e : s.data.toList = s'.data.toList
  · simp [e]
  · have : (s.data.toList == s'.data.toList) = false := by simpa using e
    rw [this]
    symm
    rw [decide_eq_false_iff_not]
    intro h
    apply e
    have hinj : ∀ (a b : List UInt8), (a.map fun b => (b.toNat : Int)) = (b.map fun b => (b.toNat : Int)) → a = b := by
      intro a
      induction a with
      | nil => intro b h; cases b with | nil => rfl | cons => simp at h
      | cons x a ih =>
        intro b h
        cases b with
        | nil => simp at h
        | cons y b =>
          simp only [List.map_cons, List.cons.injEq] at h
          rw [ih b h.2]
          have : x.toNat = y.toNat := by omega
          rw [UInt8.toNat_inj.1 this]
    exact hinj _ _ h
theorem str_lt : ∀ (a b : List UInt8), Op.bytesLess a b = ltI (a.map fun b => (b.toNat : Int)) (b.map fun b => (b.toNat : Int))
  | [], [] => by simp [Op.bytesLess, ltI]
  | _ :: _, [] => by simp [Op.bytesLess, ltI]
  | [], _ :: _ => by simp [Op.bytesLess, ltI]
  | x :: a, y :: b => by
    simp only [Op.bytesLess, ltI, List.map_cons, str_lt a b]
    congr 1
    · by_cases h : x < y
      · have : (x.toNat : Int) < y.toNat := by have := UInt8.lt_iff_toNat_lt.1 h; omega
        simp [h, this]
      · have : ¬ (x.toNat : Int) < y.toNat := fun h' => h (UInt8.lt_iff_toNat_lt.2 (by omega))
        simp [h, this]
    · congr 1
      by_cases h : x = y
      · simp [h]
      · have : ¬ (x.toNat : Int) = y.toNat := fun h' => h (UInt8.toNat_inj.1 (by omega))
        have h2 : (x == y) = false := by simpa using h
        simp [h2, this]

/-- The function without Go text of the table. -/
def ExtOK (P : Program) (f : FuncId) : Prop := ∃ F, P.funcs[f]? = some F ∧ F.body = none ∧ (F.name == "runtime.NumGoroutine") = false ∧ Extern.findNext F = none ∧ Extern.find F = some Extern.BytealgCompare.compare

structure EnvOK (P : Program) (E : Env) : Prop where
  ext : ∀ f, E.ext f = true → ExtOK P f
  ty : ∀ t τ, E.ty t = some τ → TyOK P t τ
  cmp : ∀ t τ, E.ty t = some τ → τ.cmp = true → CmpOK P t τ.zero

theorem under_of {P E} (O : EnvOK P E) {t τ} (h : E.ty t = some τ) : ∃ d, P.underlying t = some d ∧ dOK d τ.d = true := (O.ty t τ h).desc
theorem under_int {P E} (O : EnvOK P E) {t k a b z m} (h : E.ty t = some ⟨.int k, a, b, z, m⟩) : P.underlying t = some (.int k) := by
  obtain ⟨d, h1, h2⟩ := under_of O h
  cases d <;> simp [dOK] at h2
  rw [h1, h2]
theorem under_bool {P E} (O : EnvOK P E) {t a b z m} (h : E.ty t = some ⟨.bool, a, b, z, m⟩) : P.underlying t = some .bool := by
  obtain ⟨d, h1, h2⟩ := under_of O h
  cases d <;> simp [dOK] at h2
  exact h1
theorem under_str {P E} (O : EnvOK P E) {t a b z m} (h : E.ty t = some ⟨.str, a, b, z, m⟩) : P.underlying t = some .string := by
  obtain ⟨d, h1, h2⟩ := under_of O h
  cases d <;> simp [dOK] at h2
  exact h1
theorem under_slice {P E} (O : EnvOK P E) {t e a b z m} (h : E.ty t = some ⟨.slice e, a, b, z, m⟩) : P.underlying t = some (.slice e) := by
  obtain ⟨d, h1, h2⟩ := under_of O h
  cases d <;> simp [dOK] at h2
  rw [h1, h2]
theorem under_iface {P E} (O : EnvOK P E) {t e a b z m} (h : E.ty t = some ⟨.iface e, a, b, z, m⟩) : ∃ ms, P.underlying t = some (.interface ms) ∧ e = ms.isEmpty := by
  obtain ⟨d, h1, h2⟩ := under_of O h
  cases d <;> simp [dOK] at h2
  exact ⟨_, h1, by simpa using h2⟩
theorem under_arr {P E} (O : EnvOK P E) {t n e a b z m} (h : E.ty t = some ⟨.arr n e, a, b, z, m⟩) : P.underlying t = some (.array n e) := by
  obtain ⟨d, h1, h2⟩ := under_of O h
  cases d <;> simp [dOK] at h2
  rw [h1, h2.1, h2.2]
theorem under_strct {P E} (O : EnvOK P E) {t l a b z m} (h : E.ty t = some ⟨.strct l, a, b, z, m⟩) : ∃ fs : Array Field, P.underlying t = some (.struct fs) ∧ (fs.toList.map fun f => (f.offset, f.type)) = l := by
  obtain ⟨d, h1, h2⟩ := under_of O h
  cases d <;> simp [dOK] at h2
  rename_i fs
  exact ⟨fs, h1, h2⟩
theorem run_size {P E} (O : EnvOK P E) {t τ} (h : E.ty t = some τ) (w : World) : (Go.sizeOf t).run P w = .ok τ.size w := by
  obtain ⟨i, z, h1, h2, _⟩ := (O.ty t τ h).info
  simp [Go.sizeOf, typeInfo, h1, h2]
theorem run_isAgg {P E} (O : EnvOK P E) {t τ} (h : E.ty t = some τ) (w : World) : (isAgg t).run P w = .ok τ.d.isAgg w := by
  obtain ⟨d, h1, h2⟩ := under_of O h
  cases hd : τ.d <;> cases d <;> simp [hd, dOK] at h2 <;> simp [isAgg, run_underlying h1, Ty.isAgg]

theorem run_equal_bool {P : Program} {t : TypeId} (hu : P.underlying t = some .bool) (a b : Bool) (w : World) : (Op.equal t (.bool a) (.bool b)).run P w = .ok (a == b) w := by
  rw [show Op.equal t (.bool a) (.bool b) = Op.equalIn (9999 + 1) t (.bool a) (.bool b) from rfl, Op.equalIn]
  simp [run_underlying hu]
theorem run_equal_nil {P : Program} {t e : TypeId} (hu : P.underlying t = some (.slice e)) (a : Option Addr) (l k m n : Nat) (w : World) : (Op.equal t (.slice a l k) (.slice none m n)).run P w = .ok a.isNone w := by
  rw [show Op.equal t (.slice a l k) (.slice none m n) = Op.equalIn (9999 + 1) t (.slice a l k) (.slice none m n) from rfl, Op.equalIn]
  cases a <;> simp [run_underlying hu]

theorem run_equal_iface {P : Program} {t : TypeId} {ms} (hu : P.underlying t = some (.interface ms)) (t' : TypeId) (v : Value) (w : World) : (Op.equal t (.iface t' v) .nilIface).run P w = .ok false w := by
  rw [show Op.equal t (.iface t' v) .nilIface = Op.equalIn (9999 + 1) t (.iface t' v) .nilIface from rfl, Op.equalIn]
  simp [run_underlying hu]
theorem run_equal_nili {P : Program} {t : TypeId} {ms} (hu : P.underlying t = some (.interface ms)) (w : World) : (Op.equal t .nilIface .nilIface).run P w = .ok true w := by
  rw [show Op.equal t .nilIface .nilIface = Op.equalIn (9999 + 1) t .nilIface .nilIface from rfl, Op.equalIn]
  simp [run_underlying hu]
theorem run_guard_nili {P : Program} {t : TypeId} {ms} (hu : P.underlying t = some (.interface ms)) (he : ms.isEmpty = true) (w : World) : (Op.eqGuardIn Op.maxDepth t .nilIface .nilIface).run P w = .ok false w := by
  rw [show Op.eqGuardIn Op.maxDepth t .nilIface .nilIface = Op.eqGuardIn (9999 + 1) t .nilIface .nilIface from rfl, Op.eqGuardIn]
  simp [run_underlying hu, he]

/-- What an operation that only computes owes. -/
def Comp (P : Program) (c : Cx) (s : Sem Value) (r : AV) : Prop := ∃ v, s.run P c.w = .ok v c.w ∧ RV c r v

theorem intOp_sound {P : Program} {c : Cx} {op k a b r t ox oy} (h : intOp op k a b = some r) :
    Comp P c (do eqGuard op t ox oy (.int k a) (.int k b); binOp op t (.int k a) (.int k b)) r := by
  cases op <;> simp only [intOp] at h <;> (try split at h) <;> simp only [Option.some.injEq, reduceCtorEq] at h <;> subst h
  all_goals
    refine ⟨_, ?_, by constructor⟩
    simp [eqGuard, binOp, Op.intArith, Op.intDiv, Op.intBits, Op.intCmp, *]

theorem binA_sound {P E} (O : EnvOK P E) {c : Cx} {op t x y r u v ox oy} (h : binA E op t x y = some r) (hx : RV c x u) (hy : RV c y v) :
    Comp P c (do eqGuard op t ox oy u v; binOp op t u v) r := by
  unfold binA at h
  split at h
  · cases hx; cases hy
    split at h
    · cases h
    · cases h
      rename_i hb
      refine ⟨_, ?_, .int _ _⟩
      simp [eqGuard, binOp, Op.shift, hb]
  · cases hx; cases hy
    split at h
    · cases h
    · cases h
      rename_i hb
      refine ⟨_, ?_, .int _ _⟩
      simp [eqGuard, binOp, Op.shift, hb]
  · cases hx; cases hy
    split at h
    · rename_i hk; subst hk
      exact intOp_sound h
    · cases h
  · cases hx; cases hy
    split at h
    · rename_i ht
      cases h
      refine ⟨_, ?_, .bool _⟩
      simp [eqGuard, binOp, run_equal_bool (under_bool O ht)]
    · cases h
  · cases hx; cases hy
    split at h
    · rename_i ht
      cases h
      refine ⟨_, ?_, .bool _⟩
      simp [eqGuard, binOp, run_equal_bool (under_bool O ht)]
    · cases h
  · cases hx with
    | str _ s e1 => cases hy with
      | str _ s' e2 =>
        subst e1 e2; cases h
        refine ⟨_, ?_, .bool _⟩
        simp [eqGuard, binOp, Op.stringOp, str_eq]
  · cases hx with
    | str _ s e1 => cases hy with
      | str _ s' e2 =>
        subst e1 e2; cases h
        refine ⟨_, ?_, .bool _⟩
        simp [eqGuard, binOp, Op.stringOp, str_eq]
  · cases hx with
    | str _ s e1 => cases hy with
      | str _ s' e2 =>
        subst e1 e2; cases h
        refine ⟨_, ?_, .bool _⟩
        simp [eqGuard, binOp, Op.stringOp, ByteArray.toList_eq, str_lt]
  · cases hx with
    | str _ s e1 => cases hy with
      | str _ s' e2 =>
        subst e1 e2; cases h
        refine ⟨_, ?_, .bool _⟩
        simp only [eqGuard, binOp, Op.stringOp, str_eq]
        simp [ByteArray.toList_eq, str_lt]
  · cases hx with
    | str _ s e1 => cases hy with
      | str _ s' e2 =>
        subst e1 e2
        split at h
        · rename_i hl
          cases h
          refine ⟨.string (s ++ s'), ?_, .str _ _ ?_⟩
          · simp at hl
            have : ¬ ((s.size + s'.size : Nat) : Int) > IntKind.i64.max := by
              have e1 : s.size = s.data.size := rfl
              have e2 : s'.size = s'.data.size := rfl
              simp [IntKind.max, IntKind.signed, IntKind.bits]; omega
            simp only [eqGuard, binOp, Op.stringOp]
            simp only [this, if_false]
            simp
          · simp
        · cases h
  · cases hx with
    | agg _ vs h1 _ => cases hy with
      | agg _ us h2 _ =>
        split at h
        · rename_i τ ht
          split at h
          · rename_i hc
            cases e : eqL _ _ with
            | none => rw [e] at h; cases h
            | some b =>
              rw [e] at h; cases h
              exact ⟨_, (O.cmp t τ ht hc.1 c _ _ vs us b c.w ox oy hc.2 e h1 h2).1, .bool _⟩
          · cases h
        · cases h
  · cases hx with
    | agg _ vs h1 _ => cases hy with
      | agg _ us h2 _ =>
        split at h
        · rename_i τ ht
          split at h
          · rename_i hc
            cases e : eqL _ _ with
            | none => rw [e] at h; cases h
            | some b =>
              rw [e] at h; cases h
              exact ⟨_, (O.cmp t τ ht hc.1 c _ _ vs us b c.w ox oy hc.2 e h1 h2).2, .bool _⟩
          · cases h
        · cases h
  · split at h
    · rename_i ht
      cases h
      refine ⟨_, ?_, .bool _⟩
      have hu := under_slice O ht
      cases hy with
      | slE _ a' _ cap' q1 q2 q3 =>
        have ha' : a' = none := q1.2 rfl
        subst ha'
        cases hx with
        | slE f a _ _ p1 p2 p3 =>
          cases a with
          | none => simp [eqGuard, binOp, run_equal_nil hu, p1.1 rfl]
          | some a =>
            simp at p1
            simp [eqGuard, binOp, run_equal_nil hu, p1]
        | slC => simp [eqGuard, binOp, run_equal_nil hu]
    · cases h
  · split at h
    · rename_i ht
      cases h
      refine ⟨_, ?_, .bool _⟩
      have hu := under_slice O ht
      cases hy with
      | slE _ a' _ cap' q1 q2 q3 =>
        have ha' : a' = none := q1.2 rfl
        subst ha'
        cases hx with
        | slE f a _ _ p1 p2 p3 =>
          cases a with
          | none => simp [eqGuard, binOp, run_equal_nil hu, p1.1 rfl]
          | some a =>
            simp at p1
            simp [eqGuard, binOp, run_equal_nil hu, p1]
        | slC => simp [eqGuard, binOp, run_equal_nil hu]
    · cases h
  · split at h
    · rename_i ht
      cases h
      obtain ⟨ms, hu, _⟩ := under_iface O ht
      refine ⟨_, ?_, .bool _⟩
      cases hx; cases hy
      simp [eqGuard, binOp, run_equal_iface hu]
    · cases h
  · split at h
    · rename_i ht
      cases h
      obtain ⟨ms, hu, _⟩ := under_iface O ht
      refine ⟨_, ?_, .bool _⟩
      cases hx; cases hy
      simp [eqGuard, binOp, run_equal_iface hu]
    · cases h
  · split at h
    · rename_i ht
      cases h
      obtain ⟨ms, hu, he⟩ := under_iface O ht
      refine ⟨_, ?_, .bool _⟩
      cases hx; cases hy
      simp only [eqGuard, binOp]
      simp [run_equal_nili hu, run_guard_nili hu he.symm]
    · cases h
  · split at h
    · rename_i ht
      cases h
      obtain ⟨ms, hu, he⟩ := under_iface O ht
      refine ⟨_, ?_, .bool _⟩
      cases hx; cases hy
      simp only [eqGuard, binOp]
      simp [run_equal_nili hu, run_guard_nili hu he.symm]
    · cases h
  · cases h

theorem unA_sound {P : Program} {c : Cx} {op x r u} (h : unA op x = some r) (hx : RV c x u) : Comp P c (Op.unary op u) r := by
  unfold unA at h
  split at h
  · cases hx; cases h; exact ⟨_, by simp [Op.unary], .bool _⟩
  · cases hx; cases h; exact ⟨_, by simp [Op.unary, Op.intArith], .int _ _⟩
  · cases h

end Ab
