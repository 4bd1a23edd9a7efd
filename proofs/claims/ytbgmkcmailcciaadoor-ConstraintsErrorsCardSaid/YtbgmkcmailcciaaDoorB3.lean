/- What the evaluator's values say of memory. Own work, no conditions. -/
import Derived.Test.YtbgmkcmailcciaaDoorB2
set_option linter.unusedVariables false
namespace Ab
open Go

structure Cx where
  w : World
  Rd : Nat → Prop
  m : Key → Nat × Nat
  h : Heap
/-- The block of a key; its capacity where the evaluator doesn't know it. -/
def Cx.mu (c : Cx) (k : Key) : Nat := (c.m k).1
def Cx.Vk (c : Cx) (k : Key) : Prop := ∃ o, lookK c.h k = some o
def Cx.Mut (c : Cx) (b : Nat) : Prop := ∃ k o, lookK c.h k = some o ∧ o.live = true ∧ o.mt = true ∧ c.mu k = b

mutual
inductive RV (c : Cx) : AV → Value → Prop
  | int (k n) : RV c (.int k n) (.int k n)
  | bool (b) : RV c (.bool b) (.bool b)
  | str (l s) : (s.data.toList.map fun b => (b.toNat : Int)) = l → RV c (.str l) (.string s)
  | agg (cs vs) : RVs c cs vs → (∀ x ∈ cs, x.scal = true) → RV c (.agg cs) (.agg ⟨vs⟩)
  | tup (xs vs) : RVs c xs vs → RV c (.tup xs) (.tuple ⟨vs⟩)
  | slE (f a cap cap') : (a = none ↔ f = true) → (f = true → cap' = 0) → (∀ k, cap = some k → cap' = k) → RV c (.sl f [] cap) (.slice a 0 cap')
  | slC (xs vs b off esz cap cap') : xs ≠ [] → RVs c xs vs → (∀ v ∈ vs, v.cells.size = esz) → (∀ x ∈ xs, x.pure = true) → c.Rd b →
      (∀ i cell, (vs.flatMap (·.cells.toList))[i]? = some cell → c.w.cell? ⟨b, off + i, none⟩ = some cell) → xs.length ≤ cap' → (∀ k, cap = some k → cap' = k) →
      RV c (.sl false xs cap) (.slice (some ⟨b, off, none⟩) xs.length cap')
  | ref (k off len cap cap') : c.Vk k → len ≤ cap' → (∀ q, cap = some q → cap' = q) → (cap = none → off = 0 → cap' = (c.m k).2) → RV c (.ref k off len cap) (.slice (some ⟨c.mu k, off, none⟩) len cap')
  | ptr (k off) : c.Vk k → RV c (.ptr k off) (.pointer (some ⟨c.mu k, off, none⟩))
  | pel (cs vs b off) : RVs c cs vs → (∀ x ∈ cs, x.scal = true) → (∀ x ∈ cs, x.pure = true) → c.Rd b →
      (∀ i cell, vs[i]? = some cell → c.w.cell? ⟨b, off + i, none⟩ = some cell) → RV c (.pel cs) (.pointer (some ⟨b, off, none⟩))
  | nilp : RV c .nilp (.pointer none)
  | fn (f a b va vb) : RVs c a va → RVs c b vb → RV c (.fn f a b) (.func (.func f) ⟨va⟩ ⟨vb⟩)
  | nilf : RV c .nilf .nilFunc
  | iface (t x v) : RV c x v → RV c (.iface t x) (.iface t v)
  | nili : RV c .nili .nilIface
inductive RVs (c : Cx) : List AV → List Value → Prop
  | nil : RVs c [] []
  | cons (x v xs vs) : RV c x v → RVs c xs vs → RVs c (x :: xs) (v :: vs)
end

namespace AV
mutual
theorem keys_pure : ∀ (x : AV), x.pure = true → x.keys = []
  | .int .., _ => rfl
  | .bool _, _ => rfl
  | .str _, _ => rfl
  | .agg cs, h => by simpa [keys] using keysL_pure cs (by simpa [pure] using h)
  | .tup cs, h => by simpa [keys] using keysL_pure cs (by simpa [pure] using h)
  | .sl .., _ => rfl
  | .ref .., h => by simp [pure] at h
  | .ptr .., h => by simp [pure] at h
  | .pel _, _ => rfl
  | .nilp, _ => rfl
  | .fn _ a b, h => by
    simp only [pure, Bool.and_eq_true] at h
    simp [keys, keysL_pure a h.1, keysL_pure b h.2]
  | .nilf, _ => rfl
  | .iface _ v, h => by simpa [keys] using keys_pure v (by simpa [pure] using h)
  | .nili, _ => rfl
theorem keysL_pure : ∀ (xs : List AV), pureL xs = true → keysL xs = []
  | [], _ => rfl
  | x :: xs, h => by
    simp only [pureL, Bool.and_eq_true] at h
    simp [keysL, keys_pure x h.1, keysL_pure xs h.2]
end
theorem pureL_all : ∀ (xs : List AV), pureL xs = true ↔ ∀ x ∈ xs, x.pure = true
  | [] => by simp [pureL]
  | x :: xs => by simp [pureL, pureL_all xs]
end AV

mutual
theorem RV.mono {c c' : Cx} (hR : ∀ b, c.Rd b → c'.Rd b ∧ c'.w.heap[b]? = c.w.heap[b]?) : ∀ {x v}, RV c x v → (∀ k ∈ x.keys, c.Vk k → c'.Vk k ∧ c'.m k = c.m k) → RV c' x v
  | _, _, .int k n, _ => .int k n
  | _, _, .bool b, _ => .bool b
  | _, _, .str l s h, _ => .str l s h
  | _, _, .agg cs vs h hs, hk => .agg cs vs (RVs.mono hR h hk) hs
  | _, _, .tup cs vs h, hk => .tup cs vs (RVs.mono hR h hk)
  | _, _, .slE f a cap cap' h1 h2 h3, _ => .slE f a cap cap' h1 h2 h3
  | _, _, .slC xs vs b off esz cap cap' hne h hv hp hb hc hl hcap, _ =>
    .slC xs vs b off esz cap cap' hne (RVs.mono hR h (by rw [AV.keysL_pure xs ((AV.pureL_all xs).2 hp)]; simp)) hv hp (hR b hb).1
      (fun i cell hi => by have := hc i cell hi; rw [← this]; exact World.cell?_of_block (hR b hb).2) hl hcap
  | _, _, .ref k off len cap cap' h1 h2 h3 h4, hk => by
    have := hk k (by simp [AV.keys]) h1
    rw [show c.mu k = c'.mu k from (congrArg Prod.fst this.2).symm]
    exact .ref k off len cap cap' this.1 h2 h3 (by rw [this.2]; exact h4)
  | _, _, .ptr k off h1, hk => by
    have := hk k (by simp [AV.keys]) h1
    rw [show c.mu k = c'.mu k from (congrArg Prod.fst this.2).symm]
    exact .ptr k off this.1
  | _, _, .pel cs vs b off h hs hp hb hc, _ =>
    .pel cs vs b off (RVs.mono hR h (by rw [AV.keysL_pure cs ((AV.pureL_all cs).2 hp)]; simp)) hs hp (hR b hb).1
      (fun i cell hi => by have := hc i cell hi; rw [← this]; exact World.cell?_of_block (hR b hb).2)
  | _, _, .nilp, _ => .nilp
  | _, _, .fn f a b va vb h1 h2, hk => .fn f a b va vb (RVs.mono hR h1 fun k hm => hk k (by simp [AV.keys, hm])) (RVs.mono hR h2 fun k hm => hk k (by simp [AV.keys, hm]))
  | _, _, .nilf, _ => .nilf
  | _, _, .iface t x v h, hk => .iface t x v (RV.mono hR h hk)
  | _, _, .nili, _ => .nili
theorem RVs.mono {c c' : Cx} (hR : ∀ b, c.Rd b → c'.Rd b ∧ c'.w.heap[b]? = c.w.heap[b]?) : ∀ {xs vs}, RVs c xs vs → (∀ k ∈ AV.keysL xs, c.Vk k → c'.Vk k ∧ c'.m k = c.m k) → RVs c' xs vs
  | _, _, .nil, _ => .nil
  | _, _, .cons x v xs vs h1 h2, hk => .cons x v xs vs (RV.mono hR h1 fun k hm => hk k (by simp [AV.keysL, hm])) (RVs.mono hR h2 fun k hm => hk k (by simp [AV.keysL, hm]))
end

theorem RVs.length {c : Cx} : ∀ {xs vs}, RVs c xs vs → xs.length = vs.length
  | _, _, .nil => rfl
  | _, _, .cons _ _ _ _ _ h => by simp [h.length]
theorem RVs.get {c : Cx} : ∀ {xs : List AV} {vs : List Value}, RVs c xs vs → ∀ {i : Nat} {x : AV}, xs[i]? = some x → ∃ v, vs[i]? = some v ∧ RV c x v
  | _, _, .nil, i, x, h => by simp at h
  | _, _, .cons x v xs vs h1 h2, 0, y, h => by simp at h; subst h; exact ⟨v, rfl, h1⟩
  | _, _, .cons x v xs vs h1 h2, i + 1, y, h => by simpa using h2.get (by simpa using h)
theorem RVs.append {c : Cx} : ∀ {xs vs}, RVs c xs vs → ∀ {ys us}, RVs c ys us → RVs c (xs ++ ys) (vs ++ us)
  | _, _, .nil, _, _, h => h
  | _, _, .cons x v xs vs h1 h2, _, _, h => .cons x v _ _ h1 (h2.append h)
theorem RVs.of_get {c : Cx} : ∀ {xs : List AV} {vs : List Value}, xs.length = vs.length → (∀ (i : Nat) x v, xs[i]? = some x → vs[i]? = some v → RV c x v) → RVs c xs vs
  | [], [], _, _ => .nil
  | x :: xs, v :: vs, hl, h => .cons x v xs vs (h 0 x v rfl rfl) (RVs.of_get (by simpa using hl) fun i y u hx hv => h (i + 1) y u (by simpa using hx) (by simpa using hv))
theorem RVs.drop {c : Cx} (n : Nat) {xs vs} (h : RVs c xs vs) : RVs c (xs.drop n) (vs.drop n) :=
  .of_get (by simp [h.length]) fun i x v hx hv => by
    rw [List.getElem?_drop] at hx hv
    obtain ⟨v', h1, h2⟩ := h.get hx
    rw [h1] at hv; cases hv; exact h2
theorem RVs.take {c : Cx} (n : Nat) {xs vs} (h : RVs c xs vs) : RVs c (xs.take n) (vs.take n) :=
  .of_get (by simp [h.length]) fun i x v hx hv => by
    rw [List.getElem?_take] at hx hv
    split at hx
    · rename_i hi
      rw [if_pos hi] at hv
      obtain ⟨v', h1, h2⟩ := h.get hx
      rw [h1] at hv; cases hv; exact h2
    · cases hx

/-- A value's cells. -/
theorem RV.cells {c : Cx} {x v} (h : RV c x v) : RVs c x.cells v.cells.toList := by
  cases h with
  | agg cs vs h hs => simpa [AV.cells, Value.cells] using h
  | _ => simp only [AV.cells, Value.cells]; exact .cons _ _ _ _ (by constructor <;> assumption) .nil
theorem RV.cells_size {c : Cx} {x v} (h : RV c x v) : v.cells.size = x.cells.length := by
  have := h.cells.length; simpa using this.symm

/-- Of the evaluator's heap: each live thing of it lies in memory. -/
structure HR (base : Nat) (c : Cx) : Prop where
  obj : ∀ (k : Key) (o : AObj), lookK c.h k = some o → o.live = true → ∃ (arr : Array Value) (e : TypeId) (fr : Nat × Nat), c.w.heap[c.mu k]? = some (.cells arr e fr) ∧ (∀ i, i < arr.size → ¬ (fr.1 ≤ i ∧ i < fr.2)) ∧
    o.cells.length ≤ arr.size ∧ (o.exact = true → arr.size = o.cells.length) ∧ (o.exact = false → arr.size = (c.m k).2 * o.esz) ∧ ∀ (i : Nat) (x : AV), o.cells[i]? = some x → ∃ v : Value, arr[i]? = some v ∧ RV c x v ∧ x.scal = true
  mt : ∀ k o, lookK c.h k = some o → o.live = true → o.mt = true → ¬ c.Rd (c.mu k) ∧ base ≤ c.mu k
  sld : ∀ k o, lookK c.h k = some o → o.live = true → o.mt = false → c.Rd (c.mu k)
  inj : ∀ k o k' o', lookK c.h k = some o → lookK c.h k' = some o' → o.live = true → o'.live = true → o.mt = true → o'.mt = true → c.mu k = c.mu k' → k = k'
  rd : ∀ b, c.Rd b → b < c.w.heap.size

/-- What one step may turn. -/
structure Ext (base : Nat) (c c' : Cx) : Prop where
  os : c'.w.os = c.w.os
  tape : c'.w.tape = c.w.tape
  output : c'.w.output = c.w.output
  size : c.w.heap.size ≤ c'.w.heap.size
  frame : ∀ b, b < c.w.heap.size → ¬ c.Mut b → c'.w.heap[b]? = c.w.heap[b]?
  rd : ∀ b, c.Rd b → c'.Rd b
  vk : ∀ k, c.Vk k → c'.Vk k ∧ c'.m k = c.m k
  newrd : ∀ b, c'.Rd b → c.Rd b ∨ c.w.heap.size ≤ b ∨ c.Mut b
  newmut : ∀ b, c'.Mut b → c.Mut b ∨ c.w.heap.size ≤ b

theorem HR.not_mut {base c} (h : HR base c) {b : Nat} (hb : c.Rd b) : ¬ c.Mut b := by
  rintro ⟨k, o, h1, h2, h3, rfl⟩
  exact (h.mt k o h1 h2 h3).1 hb
theorem Ext.same {base c c'} (e : Ext base c c') (h : HR base c) {b : Nat} (hb : c.Rd b) : c'.Rd b ∧ c'.w.heap[b]? = c.w.heap[b]? :=
  ⟨e.rd b hb, e.frame b (h.rd b hb) (h.not_mut hb)⟩
theorem Ext.rv {base c c'} (e : Ext base c c') (h : HR base c) {x v} (hx : RV c x v) : RV c' x v :=
  hx.mono (fun b hb => e.same h hb) fun k _ hk => e.vk k hk
theorem Ext.rvs {base c c'} (e : Ext base c c') (h : HR base c) {x v} (hx : RVs c x v) : RVs c' x v :=
  hx.mono (fun b hb => e.same h hb) fun k _ hk => e.vk k hk
theorem Ext.refl (base c) : Ext base c c :=
  ⟨rfl, rfl, rfl, Nat.le_refl _, fun _ _ _ => rfl, fun _ h => h, fun _ h => ⟨h, rfl⟩, fun _ h => .inl h, fun _ h => .inl h⟩
theorem Ext.trans {base a b c} (h : Ext base a b) (k : Ext base b c) (ha : HR base a) : Ext base a c where
  os := k.os.trans h.os
  tape := k.tape.trans h.tape
  output := k.output.trans h.output
  size := Nat.le_trans h.size k.size
  frame := fun x hx hm => (k.frame x (Nat.lt_of_lt_of_le hx h.size) fun hb => (h.newmut x hb).elim hm fun hl => by omega).trans (h.frame x hx hm)
  rd := fun x hx => k.rd x (h.rd x hx)
  vk := fun q hq => ⟨(k.vk q (h.vk q hq).1).1, (k.vk q (h.vk q hq).1).2.trans (h.vk q hq).2⟩
  newrd := fun x hx => by
    rcases k.newrd x hx with h1 | h1 | h1
    · exact h.newrd x h1
    · exact .inr (.inl (Nat.le_trans h.size h1))
    · rcases h.newmut x h1 with h2 | h2
      · exact .inr (.inr h2)
      · exact .inr (.inl h2)
  newmut := fun x hx => by
    rcases k.newmut x hx with h1 | h1
    · exact h.newmut x h1
    · exact .inr (Nat.le_trans h.size h1)

/-- A frame's slots. -/
def FR (c : Cx) (n : Nat) (t : Fr) (tmps : Array Value) : Prop := tmps.size = n ∧ ∀ i v, lookT t i = some v → RV c v (tmps.getD i undef)

end Ab
