/- An operation looks at its operands alone. Own work, no conditions. -/
import Derived.Test.YtbgmkcmailcciaaDoorB20
set_option linter.unusedVariables false
set_option linter.unusedSimpArgs false
namespace Ab
open Go

def applyS (h : Heap) : List (Key × AObj) → Heap
  | [] => h
  | (k, o) :: r => applyS (setK h k o) r
def lookU : List (Key × AObj) → Key → Option AObj
  | [], _ => none
  | (k, o) :: r, q => match lookU r q with
    | some x => some x
    | none => if k = q then some o else none
theorem lookK_applyS : ∀ (us : List (Key × AObj)) (h : Heap) (q : Key), lookK (applyS h us) q = match lookU us q with | some o => some o | none => lookK h q
  | [], h, q => rfl
  | (k, o) :: r, h, q => by
    simp only [applyS, lookU, lookK_applyS r]
    cases lookU r q with
    | some x => rfl
    | none =>
      simp only [lookK_setK]
      by_cases e : k = q <;> simp [e]
theorem lookU_none {us : List (Key × AObj)} {q : Key} (h : ∀ p ∈ us, p.1 ≠ q) : lookU us q = none := by
  induction us with
  | nil => rfl
  | cons p r ih =>
    obtain ⟨k, o⟩ := p
    simp only [lookU, ih fun p hp => h p (by simp [hp])]
    rw [if_neg (h (k, o) (by simp))]

theorem keysL_mem {l : List AV} {x : AV} (h : x ∈ l) : ∀ k ∈ x.keys, k ∈ AV.keysL l := by
  induction l with
  | nil => cases h
  | cons y l ih =>
    intro k hk
    simp only [AV.keysL, List.mem_append]
    rcases List.mem_cons.1 h with rfl | h
    · exact .inl hk
    · exact .inr (ih h k hk)
theorem keysOp_mem {E t o x v} (hx : x ∈ o.op.operands.toList) (hv : opd E t x = some v) : ∀ k ∈ v.keys, k ∈ keysOp E t o :=
  keysL_mem (List.mem_filterMap.2 ⟨x, hx, hv⟩)

structure Agree (E : Env) (lvl : Nat) (t : Fr) (h : Heap) (t2 : Fr) (h2 : Heap) (o : Oper) : Prop where
  opd : ∀ x ∈ o.op.operands.toList, Ab.opd E t2 x = Ab.opd E t x
  heap : clsOf o.op = 0 ∨ clsOf o.op = 2 ∨ ∀ k ∈ keysOp E t o, lookK h2 k = lookK h k
  gen : clsOf o.op < 2 ∨ genOf h2 lvl (o.dst.getD 0) = genOf h lvl (o.dst.getD 0)

theorem opdL_agree {E t t2} : ∀ {l : List Operand}, (∀ x ∈ l, opd E t2 x = opd E t x) → opdL E t2 l = opdL E t l
  | [], _ => rfl
  | x :: r, h => by
    have h2 := opdL_agree (l := r) fun y hy => h y (by simp [hy])
    simp only [opdL, h x (by simp), h2]

theorem readC_agree {h h2 p n} (ha : ∀ k ∈ p.keys, lookK h2 k = lookK h k) : readC h2 p n = readC h p n := by
  unfold readC
  split
  · rename_i key off; rw [ha key (by simp [AV.keys])]
  · rfl
  · rfl
theorem conts_agree {h h2 x} (ha : ∀ k ∈ x.keys, lookK h2 k = lookK h k) : conts h2 x = conts h x := by
  unfold conts
  split
  · rfl
  · rename_i key off len _; rw [ha key (by simp [AV.keys])]
  · rfl
  · rfl
theorem writeC_agree {h : Heap} {key off vs h'} (hw : writeC h key off vs = some h') : ∃ o', h' = setK h key o' ∧ ∀ h2 : Heap, lookK h2 key = lookK h key → writeC h2 key off vs = some (setK h2 key o') := by
  unfold writeC at hw
  split at hw
  case h_2 => cases hw
  rename_i o ho
  split at hw
  case isFalse => cases hw
  rename_i hc
  cases hw
  refine ⟨_, rfl, fun h2 h2k => ?_⟩
  unfold writeC
  rw [h2k, ho]
  simp only
  rw [if_pos hc]
theorem sliceA_agree {E t x lo hi mx h h2} (ha : ∀ k ∈ x.keys, lookK h2 k = lookK h k) : sliceA E t x lo hi mx h2 = sliceA E t x lo hi mx h := by
  unfold sliceA
  split
  · rfl
  · rename_i key off len cap _; rw [ha key (by simp [AV.keys])]
  · rename_i key off _; rw [ha key (by simp [AV.keys])]
  · rfl
  · rfl
  · rfl
theorem convA_agree {E src dst x h h2} (ha : ∀ k ∈ x.keys, lookK h2 k = lookK h k) : convA E src dst x h2 = convA E src dst x h := by
  unfold convA
  split
  · rfl
  · split
    · split
      · rfl
      · rw [conts_agree ha]
    · rfl
  · rfl
  · rfl
theorem newK_eq {h : Heap} {lvl slot cs ex sz ag h' k'} (hn : newK h lvl slot cs ex sz ag = (h', k')) : k' = (lvl, slot, genOf h lvl slot) ∧ h' = setK h k' ⟨cs, true, true, ex, sz, ag⟩ ∧ ∀ h2 : Heap, genOf h2 lvl slot = genOf h lvl slot → newK h2 lvl slot cs ex sz ag = (setK h2 k' ⟨cs, true, true, ex, sz, ag⟩, k') := by
  unfold newK at hn
  cases hn
  exact ⟨rfl, rfl, fun h2 hg => by unfold newK; rw [hg]⟩

theorem genOf_setK (h : Heap) (k : Key) (o : AObj) (l s : Nat) (hk : (lookK h k).isSome = true ∨ ¬ (k.1 = l ∧ k.2.1 = s)) : genOf (setK h k o) l s = genOf h l s := by
  induction h with
  | nil =>
    obtain ⟨k1, k2, k3⟩ := k
    rcases hk with hk | hk
    · simp [lookK] at hk
    · simp only [setK, genOf]; rw [if_neg hk]
  | cons p r ih =>
    obtain ⟨⟨a, b, g⟩, o'⟩ := p
    simp only [setK]
    split
    · rename_i e; subst e; rfl
    · rename_i e
      simp only [genOf]
      have : genOf (setK r k o) l s = genOf r l s := ih (by
        rcases hk with hk | hk
        · simp only [lookK, e, if_false] at hk; exact .inl hk
        · exact .inr hk)
      rw [this]

end Ab
