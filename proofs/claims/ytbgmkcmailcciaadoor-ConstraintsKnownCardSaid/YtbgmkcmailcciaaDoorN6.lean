/- The closed statement ConstraintsKnown at the evaluator. No conditions. -/
import Derived.Test.YtbgmkcmailcciaaDoorN5
import Derived.Test.YtbgmkcmailcciaaDoorK12
import Derived.Test.YtbgmkcmailcciaaDoorK18
import Derived.Test.YtbgmkcmailcciaaDoorK20
import Derived.Test.YtbgmkcmailcciaaDoorK21
open Ab Go TabC
set_option maxRecDepth 100000
set_option linter.unusedVariables false
set_option linter.unusedSimpArgs false
namespace N6
def bs (l : List Int) : List AV := l.map (.int .u8)
def isBs : List AV → List Int → Bool
  | [], [] => true
  | .int .u8 a :: r, b :: s => decide (a = b) && isBs r s
  | _, _ => false
theorem isBs_eq : ∀ {xs : List AV} {l : List Int}, isBs xs l = true → xs = bs l
  | [], [], _ => rfl
  | [], _ :: _, h => by simp [isBs] at h
  | x :: r, [], h => by cases x <;> simp [isBs] at h
  | x :: r, b :: s, h => by
    unfold isBs at h
    split at h
    · rename_i e; cases e
    · rename_i e1 e2
      cases e1; cases e2
      simp only [Bool.and_eq_true, decide_eq_true_eq] at h
      obtain ⟨rfl, h2⟩ := h
      rw [isBs_eq h2]; rfl
    · cases h
theorem find {α : Type} {f : α → Option AV} : ∀ {l : List α} {v}, l.findSome? f = some v → ∃ a ∈ l, f a = some v
  | a :: l, v, h => by
    rw [List.findSome?_cons] at h
    split at h
    · rename_i e; cases h; exact ⟨a, by simp, e⟩
    · obtain ⟨b, h1, h2⟩ := find h
      exact ⟨b, by simp [h1], h2⟩
def tab12 : List (Int × Int × AV) := [
  (0, 2147483647, .tup [.sl false [.int .u8 48, .int .u8 9, .int .u8 128, .int .u8 1, .int .u8 0, .int .u8 129, .int .u8 4, .int .u8 127, .int .u8 255, .int .u8 255, .int .u8 255] (some 11), .int .i64 0]),
  (1, 8388608, .tup [.sl false [.int .u8 48, .int .u8 9, .int .u8 128, .int .u8 1, .int .u8 1, .int .u8 129, .int .u8 4, .int .u8 0, .int .u8 128, .int .u8 0, .int .u8 0] (some 11), .int .i64 0]),
  (127, 32768, .tup [.sl false [.int .u8 48, .int .u8 8, .int .u8 128, .int .u8 1, .int .u8 127, .int .u8 129, .int .u8 3, .int .u8 0, .int .u8 128, .int .u8 0] (some 10), .int .i64 0]),
  (128, 32767, .tup [.sl false [.int .u8 48, .int .u8 8, .int .u8 128, .int .u8 2, .int .u8 0, .int .u8 128, .int .u8 129, .int .u8 2, .int .u8 127, .int .u8 255] (some 10), .int .i64 0]),
  (255, 256, .tup [.sl false [.int .u8 48, .int .u8 8, .int .u8 128, .int .u8 2, .int .u8 0, .int .u8 255, .int .u8 129, .int .u8 2, .int .u8 1, .int .u8 0] (some 10), .int .i64 0]),
  (256, 255, .tup [.sl false [.int .u8 48, .int .u8 8, .int .u8 128, .int .u8 2, .int .u8 1, .int .u8 0, .int .u8 129, .int .u8 2, .int .u8 0, .int .u8 255] (some 10), .int .i64 0]),
  (32767, 128, .tup [.sl false [.int .u8 48, .int .u8 8, .int .u8 128, .int .u8 2, .int .u8 127, .int .u8 255, .int .u8 129, .int .u8 2, .int .u8 0, .int .u8 128] (some 10), .int .i64 0]),
  (32768, 127, .tup [.sl false [.int .u8 48, .int .u8 8, .int .u8 128, .int .u8 3, .int .u8 0, .int .u8 128, .int .u8 0, .int .u8 129, .int .u8 1, .int .u8 127] (some 10), .int .i64 0]),
  (8388608, 1, .tup [.sl false [.int .u8 48, .int .u8 9, .int .u8 128, .int .u8 4, .int .u8 0, .int .u8 128, .int .u8 0, .int .u8 0, .int .u8 129, .int .u8 1, .int .u8 1] (some 11), .int .i64 0]),
  (2147483647, 0, .tup [.sl false [.int .u8 48, .int .u8 9, .int .u8 128, .int .u8 4, .int .u8 127, .int .u8 255, .int .u8 255, .int .u8 255, .int .u8 129, .int .u8 1, .int .u8 0] (some 11), .int .i64 0])]
theorem all12 : ∀ p ∈ tab12, aCall E 200 0 12 [.agg [.int .i64 p.1, .int .i64 p.2.1]] [] = some (.ret p.2.2, []) := by
  intro p hp
  simp only [tab12, List.mem_cons, List.not_mem_nil, or_false] at hp
  rcases hp with rfl | rfl | rfl | rfl | rfl | rfl | rfl | rfl | rfl | rfl
  · exact K12.r0
  · exact K12.r1
  · exact K12.r2
  · exact K12.r3
  · exact K12.r4
  · exact K12.r5
  · exact K12.r6
  · exact K12.r7
  · exact K12.r8
  · exact K12.r9
def p12 : List AV → Option AV
  | [.agg [.int .i64 a, .int .i64 b]] => tab12.findSome? fun p => if a = p.1 ∧ b = p.2.1 then some p.2.2 else none
  | _ => none
theorem ok12 (args v) (h : p12 args = some v) : ∃ N, Con E N 12 args v := by
  unfold p12 at h
  split at h
  · obtain ⟨p, h1, h2⟩ := find h
    split at h2
    · rename_i e; obtain ⟨rfl, rfl⟩ := e
      cases h2
      exact ⟨200, .of (g := []) rfl (all12 p h1)⟩
    · cases h2
  · cases h
def tab18 : List (List Int × AV) := [
  ([48, 9, 128, 1, 0, 129, 4, 127, 255, 255, 255], .tup [.agg [.int .i64 0, .int .i64 2147483647], .int .i64 0, .int .i64 0]),
  ([48, 9, 128, 1, 1, 129, 4, 0, 128, 0, 0], .tup [.agg [.int .i64 1, .int .i64 8388608], .int .i64 0, .int .i64 0]),
  ([48, 8, 128, 1, 127, 129, 3, 0, 128, 0], .tup [.agg [.int .i64 127, .int .i64 32768], .int .i64 0, .int .i64 0]),
  ([48, 8, 128, 2, 0, 128, 129, 2, 127, 255], .tup [.agg [.int .i64 128, .int .i64 32767], .int .i64 0, .int .i64 0]),
  ([48, 8, 128, 2, 0, 255, 129, 2, 1, 0], .tup [.agg [.int .i64 255, .int .i64 256], .int .i64 0, .int .i64 0]),
  ([48, 8, 128, 2, 1, 0, 129, 2, 0, 255], .tup [.agg [.int .i64 256, .int .i64 255], .int .i64 0, .int .i64 0]),
  ([48, 8, 128, 2, 127, 255, 129, 2, 0, 128], .tup [.agg [.int .i64 32767, .int .i64 128], .int .i64 0, .int .i64 0]),
  ([48, 8, 128, 3, 0, 128, 0, 129, 1, 127], .tup [.agg [.int .i64 32768, .int .i64 127], .int .i64 0, .int .i64 0]),
  ([48, 9, 128, 4, 0, 128, 0, 0, 129, 1, 1], .tup [.agg [.int .i64 8388608, .int .i64 1], .int .i64 0, .int .i64 0]),
  ([48, 9, 128, 4, 127, 255, 255, 255, 129, 1, 0], .tup [.agg [.int .i64 2147483647, .int .i64 0], .int .i64 0, .int .i64 0]),
  ([48, 10, 128, 1, 0, 129, 5, 0, 128, 0, 0, 0], .tup [.agg [.int .i64 0, .int .i64 0], .int .i64 5, .int .i64 3]),
  ([48, 4, 128, 2, 0, 1], .tup [.agg [.int .i64 0, .int .i64 0], .int .i64 2, .int .i64 11])]
theorem all18 : ∀ p ∈ tab18, aCall E 200 0 18 [.sl false (bs p.1) (some p.1.length)] [] = some (.ret p.2, []) := by
  intro p hp
  simp only [tab18, List.mem_cons, List.not_mem_nil, or_false] at hp
  rcases hp with rfl | rfl | rfl | rfl | rfl | rfl | rfl | rfl | rfl | rfl | rfl | rfl
  · exact K18.r0
  · exact K18.r1
  · exact K18.r2
  · exact K18.r3
  · exact K18.r4
  · exact K18.r5
  · exact K18.r6
  · exact K18.r7
  · exact K18.r8
  · exact K18.r9
  · exact K18.r10
  · exact K18.r11
def p18 : List AV → Option AV
  | [.sl false xs (some n)] => tab18.findSome? fun p => if isBs xs p.1 = true ∧ n = p.1.length then some p.2 else none
  | _ => none
theorem ok18 (args v) (h : p18 args = some v) : ∃ N, Con E N 18 args v := by
  unfold p18 at h
  split at h
  · obtain ⟨p, h1, h2⟩ := find h
    split at h2
    · rename_i e; obtain ⟨e1, rfl⟩ := e
      cases h2
      rw [isBs_eq e1]
      refine ⟨200, .of (g := []) ?_ (all18 p h1)⟩
      have : ∀ l : List Int, AV.pureL (bs l) = true := by intro l; induction l with | nil => rfl | cons a l ih => simpa [bs, AV.pureL, AV.pure] using ih
      simp [AV.pureL, AV.pure, this]
    · cases h2
  · cases h
def tab20 : List (Int × AV) := [
  (0, .tup [.sl false [.int .u8 2, .int .u8 1, .int .u8 0] (some 3), .int .i64 0]),
  (1, .tup [.sl false [.int .u8 2, .int .u8 1, .int .u8 1] (some 3), .int .i64 0]),
  (127, .tup [.sl false [.int .u8 2, .int .u8 1, .int .u8 127] (some 3), .int .i64 0]),
  (128, .tup [.sl false [.int .u8 2, .int .u8 2, .int .u8 0, .int .u8 128] (some 4), .int .i64 0]),
  (255, .tup [.sl false [.int .u8 2, .int .u8 2, .int .u8 0, .int .u8 255] (some 4), .int .i64 0]),
  (256, .tup [.sl false [.int .u8 2, .int .u8 2, .int .u8 1, .int .u8 0] (some 4), .int .i64 0]),
  (32767, .tup [.sl false [.int .u8 2, .int .u8 2, .int .u8 127, .int .u8 255] (some 4), .int .i64 0]),
  (32768, .tup [.sl false [.int .u8 2, .int .u8 3, .int .u8 0, .int .u8 128, .int .u8 0] (some 5), .int .i64 0]),
  (8388608, .tup [.sl false [.int .u8 2, .int .u8 4, .int .u8 0, .int .u8 128, .int .u8 0, .int .u8 0] (some 6), .int .i64 0]),
  (2147483647, .tup [.sl false [.int .u8 2, .int .u8 4, .int .u8 127, .int .u8 255, .int .u8 255, .int .u8 255] (some 6), .int .i64 0])]
theorem all20 : ∀ p ∈ tab20, aCall E 200 0 20 [.int .i64 p.1] [] = some (.ret p.2, []) := by
  intro p hp
  simp only [tab20, List.mem_cons, List.not_mem_nil, or_false] at hp
  rcases hp with rfl | rfl | rfl | rfl | rfl | rfl | rfl | rfl | rfl | rfl
  · exact K20.r0
  · exact K20.r1
  · exact K20.r2
  · exact K20.r3
  · exact K20.r4
  · exact K20.r5
  · exact K20.r6
  · exact K20.r7
  · exact K20.r8
  · exact K20.r9
def p20 : List AV → Option AV
  | [.int .i64 a] => tab20.findSome? fun p => if a = p.1 then some p.2 else none
  | _ => none
theorem ok20 (args v) (h : p20 args = some v) : ∃ N, Con E N 20 args v := by
  unfold p20 at h
  split at h
  · obtain ⟨p, h1, h2⟩ := find h
    split at h2
    · rename_i e; subst e
      cases h2
      exact ⟨200, .of (g := []) rfl (all20 p h1)⟩
    · cases h2
  · cases h
def tab21 : List (List Int × AV) := [
  ([2, 1, 0], .tup [.int .i64 0, .int .i64 0, .int .i64 0]),
  ([2, 1, 1], .tup [.int .i64 1, .int .i64 0, .int .i64 0]),
  ([2, 1, 127], .tup [.int .i64 127, .int .i64 0, .int .i64 0]),
  ([2, 2, 0, 128], .tup [.int .i64 128, .int .i64 0, .int .i64 0]),
  ([2, 2, 0, 255], .tup [.int .i64 255, .int .i64 0, .int .i64 0]),
  ([2, 2, 1, 0], .tup [.int .i64 256, .int .i64 0, .int .i64 0]),
  ([2, 2, 127, 255], .tup [.int .i64 32767, .int .i64 0, .int .i64 0]),
  ([2, 3, 0, 128, 0], .tup [.int .i64 32768, .int .i64 0, .int .i64 0]),
  ([2, 4, 0, 128, 0, 0], .tup [.int .i64 8388608, .int .i64 0, .int .i64 0]),
  ([2, 4, 127, 255, 255, 255], .tup [.int .i64 2147483647, .int .i64 0, .int .i64 0]),
  ([10, 1, 0], .tup [.int .i64 0, .int .i64 0, .int .i64 9])]
theorem all21 : ∀ p ∈ tab21, aCall E 200 0 21 [.sl false (bs p.1) (some p.1.length)] [] = some (.ret p.2, []) := by
  intro p hp
  simp only [tab21, List.mem_cons, List.not_mem_nil, or_false] at hp
  rcases hp with rfl | rfl | rfl | rfl | rfl | rfl | rfl | rfl | rfl | rfl | rfl
  · exact K21.r0
  · exact K21.r1
  · exact K21.r2
  · exact K21.r3
  · exact K21.r4
  · exact K21.r5
  · exact K21.r6
  · exact K21.r7
  · exact K21.r8
  · exact K21.r9
  · exact K21.r10
def p21 : List AV → Option AV
  | [.sl false xs (some n)] => tab21.findSome? fun p => if isBs xs p.1 = true ∧ n = p.1.length then some p.2 else none
  | _ => none
theorem ok21 (args v) (h : p21 args = some v) : ∃ N, Con E N 21 args v := by
  unfold p21 at h
  split at h
  · obtain ⟨p, h1, h2⟩ := find h
    split at h2
    · rename_i e; obtain ⟨e1, rfl⟩ := e
      cases h2
      rw [isBs_eq e1]
      refine ⟨200, .of (g := []) ?_ (all21 p h1)⟩
      have : ∀ l : List Int, AV.pureL (bs l) = true := by intro l; induction l with | nil => rfl | cons a l ih => simpa [bs, AV.pureL, AV.pure] using ih
      simp [AV.pureL, AV.pure, this]
    · cases h2
  · cases h
def p6 : List AV → Option AV
  | [.int .i64 a, .int .i64 b] => if a = 2147483648 ∧ b = -1 then some (.bool true) else if a = -9223372036854775808 ∧ b = 0 then some (.bool true) else none
  | _ => none
theorem ok6 (args v) (h : p6 args = some v) : ∃ N, Con N5.E2 N 6 args v := by
  unfold p6 at h
  split at h
  · split at h
    · rename_i e; obtain ⟨rfl, rfl⟩ := e
      cases h
      obtain ⟨g, q⟩ := isT_some N5.e1
      exact ⟨200, .of (g := g) rfl q⟩
    · split at h
      · rename_i e; obtain ⟨rfl, rfl⟩ := e
        cases h
        obtain ⟨g, q⟩ := isT_some N5.e2
        exact ⟨200, .of (g := g) rfl q⟩
      · cases h
  · cases h
def p7 : List AV → Option AV
  | [.int .i64 _, .int .i64 _, .int .i64 _] => some (.bool true)
  | _ => none
theorem ok7 (args v) (h : p7 args = some v) : ∃ N, Con E N 7 args v := by
  unfold p7 at h
  split at h
  · cases h; exact ⟨_, N3.law _ _ _⟩
  · cases h
def prims : FuncId → Option (List AV → Option AV)
  | 6 => some p6
  | 7 => some p7
  | 10 => some N5.p10
  | 12 => some p12
  | 14 => some N5.p14
  | 18 => some p18
  | 20 => some p20
  | 21 => some p21
  | _ => none
def E3 : Env := { E with prim := prims }
theorem known : isT (aCall E3 200 0 8 [] []) = true := by kernel_rfl
theorem env3 : EnvOK Go.Proofs.Tryd.prog E3 := .of rfl tySums_ok tyFit_ok cmpOK extOK
theorem fns3 : FnsOK Go.Proofs.Tryd.prog E3 := .of rfl allFn (by
  intro f p h
  have h : prims f = some p := h
  unfold prims at h
  split at h
  · cases h; exact prim_of (E := N5.E2) (E2 := E3) N5.env2 N5.fns2 mixed rfl (show N5.E2.fn 6 = some fn6 from E_fn6) rfl ok6
  · cases h; exact prim_of (E2 := E3) env fnsOK mixed rfl E_fn7 rfl ok7
  · cases h
    refine prim_of (E2 := E3) env fnsOK mixed rfl E_fn10 rfl fun args v h => ?_
    unfold N5.p10 at h
    split at h
    · cases h; exact ⟨_, N0.lives⟩
    · cases h
  · cases h; exact prim_of (E2 := E3) env fnsOK mixed rfl E_fn12 rfl ok12
  · cases h
    refine prim_of (E2 := E3) env fnsOK mixed rfl E_fn14 rfl fun args v h => ?_
    unfold N5.p14 at h
    split at h
    · cases h; exact ⟨_, N2.chk _ _⟩
    · cases h
  · cases h; exact prim_of (E2 := E3) env fnsOK mixed rfl E_fn18 rfl ok18
  · cases h; exact prim_of (E2 := E3) env fnsOK mixed rfl E_fn20 rfl ok20
  · cases h; exact prim_of (E2 := E3) env fnsOK mixed rfl E_fn21 rfl ok21
  · cases h)
end N6
