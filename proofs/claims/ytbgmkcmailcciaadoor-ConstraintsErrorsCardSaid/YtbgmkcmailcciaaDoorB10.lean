/- What makes and turns memory. Own work, no conditions. -/
import Derived.Test.YtbgmkcmailcciaaDoorB9
set_option linter.unusedVariables false
set_option linter.unusedSimpArgs false
namespace Ab
open Go

/-- What an operation owes that comes to a value. -/
def Made (P : Program) (base : Nat) (c : Cx) (s : Sem Value) (r : AV) (h' : Heap) : Prop :=
  ∃ v c', c'.h = h' ∧ s.run P c.w = .ok v c'.w ∧ RV c' r v ∧ HR base c' ∧ Ext base c c'

theorem Comp.made {P base c s r} (h : Comp P c s r) (H : HR base c) : Made P base c s r c.h := by
  obtain ⟨v, h1, h2⟩ := h
  exact ⟨v, c, rfl, h1, h2, H, .refl _ _⟩

theorem zero_info {P E} (O : EnvOK P E) {t τ} (h : E.ty t = some τ) : ∃ i z, P.info? t = some i ∧ i.zero = some z ∧ i.size = τ.size ∧ i.bytes = τ.bytes ∧ (∀ c, RVs c τ.zero z.cells.toList) ∧ (∀ x ∈ τ.zero, x.scal = true) ∧ τ.zero.length = τ.size := by
  obtain ⟨i, z, h1, h2, h3, h4, h5, h6, h7, h8⟩ := (O.ty t τ h).info
  exact ⟨i, z, h1, h4, h2, h3, fun c => ofVL_sound c _ _ h5, List.all_eq_true.1 h6, h7⟩

theorem rows_get {c : Cx} {cs : List AV} {arr : Array Value} (h : RVs c cs arr.toList) (hs : ∀ x ∈ cs, x.scal = true) : ∀ (i : Nat) x, cs[i]? = some x → ∃ v, arr[i]? = some v ∧ RV c x v ∧ x.scal = true := by
  intro i x hx
  obtain ⟨v, q1, q2⟩ := h.get hx
  exact ⟨v, by simpa using q1, q2, hs x (List.mem_of_getElem? hx)⟩

/-- A whole new row. -/
theorem row_made (P : Program) {base c} (H : HR base c) (hb : base ≤ c.w.heap.size) {lvl slot cs esz eagg h' k'} (hn : newK c.h lvl slot cs true esz eagg = (h', k')) {arr : Array Value} (hr : RVs c cs arr.toList) (hs : ∀ x ∈ cs, x.scal = true) (e : TypeId) :
    ∃ c', c'.h = h' ∧ (newRow e arr).run P c.w = .ok ⟨c'.mu k', 0, none⟩ c'.w ∧ c'.Vk k' ∧ HR base c' ∧ Ext base c c' := by
  have hl : arr.size = cs.length := by have := hr.length; simpa using this.symm
  obtain ⟨c', a1, a2, a3, a4, a5, a6⟩ := newK_sound H hb hn arr e (0, 0) (by simp) (by omega) (fun _ => hl) 0 (by simp) (rows_get hr hs) 0
  refine ⟨c', a1, ?_, a4, a5, a6⟩
  rw [a2, show c'.mu k' = c.w.heap.size from congrArg Prod.fst a3]
  simp [newRow]

theorem alloc_sound {P E} (O : EnvOK P E) {base c} (H : HR base c) (hb : base ≤ c.w.heap.size) {lvl slot e τ h' k'} (he : E.ty e = some τ) (hn : newK c.h lvl slot τ.zero true 1 false = (h', k')) :
    Made P base c (Instr.alloc e true (.tuple #[])) (.ptr k' 0) h' := by
  obtain ⟨i, z, h1, h2, h3, h4, h5, h6, h7⟩ := zero_info O he
  obtain ⟨c', a1, a2, a3, a4, a5⟩ := row_made P H hb hn (h5 c) h6 e
  refine ⟨.pointer (some ⟨c'.mu k', 0, none⟩), c', a1, ?_, .ptr k' 0 a3, a4, a5⟩
  simp [Instr.alloc, zeroValue, typeInfo, h1, h2, newVar, a2]

theorem box_sound {P : Program} {base c} (H : HR base c) (hb : base ≤ c.w.heap.size) {lvl slot e a v h' k'} (hv : RV c a v) (hs : a.cells.all AV.scal = true) (hn : newK c.h lvl slot a.cells true 1 false = (h', k')) :
    Made P base c (Instr.box e v) (.ptr k' 0) h' := by
  obtain ⟨c', a1, a2, a3, a4, a5⟩ := row_made P H hb hn hv.cells (List.all_eq_true.1 hs) e
  refine ⟨.pointer (some ⟨c'.mu k', 0, none⟩), c', a1, ?_, .ptr k' 0 a3, a4, a5⟩
  simp [Instr.box, newVar, a2]

theorem rep_rvs {c : Cx} {zs : List AV} {us : List Value} (h : RVs c zs us) : ∀ n, RVs c (List.replicate n zs).flatten (List.replicate n us).flatten
  | 0 => .nil
  | n + 1 => by simpa [List.replicate_succ] using h.append (rep_rvs h n)
theorem rep_scal {zs : List AV} (h : ∀ x ∈ zs, x.scal = true) (n : Nat) : ∀ x ∈ (List.replicate n zs).flatten, x.scal = true := by
  intro x hx
  simp only [List.mem_flatten, List.mem_replicate] at hx
  obtain ⟨l, ⟨_, rfl⟩, hx⟩ := hx
  exact h x hx
theorem zero_cells (z : Array Value) (hz : 0 < z.size) (n : Nat) : ((Array.range (n * z.size)).map (fun i => z[i % z.size]!)).toList = (List.replicate n z.toList).flatten := by
  apply List.ext_getElem?
  intro i
  have hlen : ((List.replicate n z.toList).flatten).length = n * z.size := by simp
  by_cases hi : i < n * z.size
  · have hm : i % z.size < z.size := Nat.mod_lt _ hz
    have : ∀ (n i : Nat), i < n * z.size → ((List.replicate n z.toList).flatten)[i]? = z.toList[i % z.size]? := by
      intro n
      induction n with
      | zero => intro i h; simp at h
      | succ n ih =>
        intro i h
        rw [List.replicate_succ, List.flatten_cons, List.getElem?_append]
        split
        · rename_i h1
          rw [Nat.mod_eq_of_lt (by simpa using h1)]
        · rename_i h1
          simp only [Array.length_toList] at h1 ⊢
          have e : (n + 1) * z.size = z.size + n * z.size := by rw [Nat.add_mul, Nat.one_mul, Nat.add_comm]
          rw [ih _ (by omega)]
          congr 1
          exact (Nat.mod_eq_sub_mod (by omega)).symm
    rw [this n i hi]
    simp [hi, hm]
  · rw [List.getElem?_eq_none (by simpa using hi), List.getElem?_eq_none (by omega)]

theorem range_zero_map {α} (f : Nat → α) : (Array.range 0).map f = #[] := by simp

theorem buildSlice_sound {P E} (O : EnvOK P E) {base c} (H : HR base c) (hb : base ≤ c.w.heap.size) {lvl slot t e a b z m τ len} {is : List Nat} {xs : List AV} {vs : List Value} {cs h' k'} (ht : E.ty t = some ⟨.slice e, a, b, z, m⟩) (he : E.ty e = some τ)
    (h1 : len * τ.size ≤ 16777216) (h2 : τ.zero.length = τ.size) (h3 : 0 < τ.size) (hil : is.length = xs.length)
    (hf : fillA (fun i => some (i * τ.size, τ.size)) ((List.replicate len τ.zero).flatten) (is.zip xs) = some cs) (hv : RVs c xs vs) (hn : newK c.h lvl slot cs true τ.size τ.d.isAgg = (h', k')) (parts : Array (Nat × Value)) (hp : parts.toList = is.zip vs) :
    Made P base c (Instr.buildSlice t len parts) (.ref k' 0 len (some len)) h' := by
  obtain ⟨i, zv, i1, i2, i3, i4, i5, i6, i7⟩ := zero_info O he
  have hzs : zv.cells.size = τ.size := by have := (i5 c).length; simp at this; omega
  have hpx : (is.zip xs).map (·.2) = xs := by rw [List.map_snd_zip]; omega
  have hpi : (is.zip xs).map (·.1) = is := by rw [List.map_fst_zip]; omega
  have hz : RVs c ((List.replicate len τ.zero).flatten) ((Array.range (len * τ.size)).map (fun j => zv.cells[j % zv.cells.size]!)).toList := by
    rw [← hzs, zero_cells _ (by omega)]
    exact rep_rvs (i5 c) len
  obtain ⟨arr', f1, f2, f3⟩ := fill_sound (c := c) (vs := vs) hf hz (by rw [hpx]; exact hv) (rep_scal i6 len)
  rw [hpi] at f1
  obtain ⟨c', a1, a2, a3, a4, a5⟩ := row_made P H hb hn f2 f3 e
  refine ⟨.slice (some ⟨c'.mu k', 0, none⟩) len len, c', a1, ?_, .ref k' 0 len _ len a3 (Nat.le_refl _) (by simp) (by simp), a4, a5⟩
  have hbig : ¬ (len * τ.size > 2 ^ 24) := by omega
  unfold Instr.buildSlice
  simp only [Sem.run_bind, run_underlying (under_slice O ht), Result.andThen_ok, run_size O he]
  rw [if_neg (by simpa using hbig)]
  by_cases e0 : len * τ.size = 0
  · rw [if_pos e0]
    simp only [Sem.run_bind, Sem.run_pure, Result.andThen_ok]
    rw [e0] at f1 ⊢
    rw [range_zero_map] at f1 ⊢
    rw [hp, f1]
    simp [a2]
  · rw [if_neg e0]
    simp only [Sem.run_bind, zeroValue, typeInfo, run_program, Result.andThen_ok, i1, i2, Sem.run_pure]
    rw [hp, f1]
    simp [a2]

theorem makeSlice_sound {P E} (O : EnvOK P E) {base c} (H : HR base c) (hb : base ≤ c.w.heap.size) {lvl slot t e a b z m τ h' k'} {l cp : Int} (ht : E.ty t = some ⟨.slice e, a, b, z, m⟩) (he : E.ty e = some τ)
    (h0 : 0 ≤ l) (h1 : l ≤ cp) (h2 : cp * τ.bytes ≤ 70368744177664) (h3 : 0 < τ.bytes) (h4 : τ.zero.length = τ.size) (h5 : 0 < τ.size)
    (hn : newK c.h lvl slot ((List.replicate cp.toNat τ.zero).flatten) true τ.size τ.d.isAgg = (h', k')) :
    Made P base c (Instr.makeSlice t (.int .i64 l) (.int .i64 cp)) (.ref k' 0 l.toNat (some cp.toNat)) h' := by
  obtain ⟨i, zv, i1, i2, i3, i4, i5, i6, i7⟩ := zero_info O he
  have hzs : zv.cells.size = τ.size := by have := (i5 c).length; simp at this; omega
  have hcp : cp ≤ 70368744177664 := by
    have : cp * 1 ≤ cp * (τ.bytes : Int) := Int.mul_le_mul_of_nonneg_left (by omega) (by omega)
    omega
  have hwl : IntKind.i64.wrap l = l := Go.IntWalk.i64_in _ (by omega)
  have hwc : IntKind.i64.wrap cp = cp := Go.IntWalk.i64_in _ (by omega)
  have hz : RVs c ((List.replicate cp.toNat τ.zero).flatten) ((Array.range (cp.toNat * τ.size)).map (fun j => zv.cells[j % zv.cells.size]!)).toList := by
    rw [← hzs, zero_cells _ (by omega)]
    exact rep_rvs (i5 c) _
  obtain ⟨c', a1, a2, a3, a4, a5⟩ := row_made P H hb hn hz (rep_scal i6 _) e
  refine ⟨.slice (some ⟨c'.mu k', 0, none⟩) l.toNat cp.toNat, c', a1, ?_, .ref k' 0 _ _ _ a3 (by omega) (by simp) (by simp), a4, a5⟩
  have hsmall : ∀ n : Int, 0 ≤ n → n * τ.bytes ≤ 70368744177664 → ((n < 0 || ((τ.bytes : Int) * n > 2 ^ 48)) : Bool) = false := by
    intro n hn hm
    have : (τ.bytes : Int) * n = n * τ.bytes := Int.mul_comm _ _
    simp only [Bool.or_eq_false_iff, decide_eq_false_iff_not]
    constructor <;> omega
  have hb2 := hsmall cp (by omega) h2
  unfold Instr.makeSlice
  simp only [Sem.run_bind, run_underlying (under_slice O ht), Result.andThen_ok, asInt, asIntOf, Sem.run_pure, typeInfo, run_program, i1, i4, hwl, hwc]
  have hc1 : ¬ ((((cp < 0 || ((τ.bytes : Int) * cp > 2 ^ 48)) || decide (l < 0) || decide (l > cp)) : Bool) = true) := by
    rw [hb2]; simp; omega
  rw [if_neg hc1]
  simp only [Sem.run_bind, run_askRoom, Result.andThen_ok, run_size O he]
  by_cases e0 : cp.toNat * τ.size = 0
  · rw [if_pos e0]
    simp only [Sem.run_bind, Sem.run_pure, Result.andThen_ok]
    rw [e0] at a2 ⊢
    rw [range_zero_map] at a2 ⊢
    simp [a2]
  · rw [if_neg e0]
    simp only [Sem.run_bind, zeroValue, typeInfo, run_program, Result.andThen_ok, i1, i2, Sem.run_pure, a2]

theorem load_sound {P E} (O : EnvOK P E) {base c} (H : HR base c) {t τ p v cs r} (ht : E.ty t = some τ) (hr : readC c.h p τ.size = some cs) (hm : τ.mk1 cs = some r) (hv : RV c p v) : Comp P c (Instr.loadAt t v) r := by
  obtain ⟨b, off, vs, rfl, h1, h2, h3, h4⟩ := readC_sound H hr hv
  obtain ⟨q1, q2, q3⟩ := mk1_sound O ht hm h1 h3
  refine ⟨_, ?_, q1⟩
  simp only [Instr.loadAt, Instr.sureAddr, Sem.run_bind, Sem.run_pure, Result.andThen_ok, loadVar, run_isAgg O ht]
  split
  · simp only [Sem.run_bind, run_size O ht, Result.andThen_ok]
    rw [run_loadCells_at P b off vs c.w τ.size h2.symm h4]
    simp
  · rename_i ha
    have := q3 (by simpa using ha)
    have e : vs[0]? = some (vs.getD 0 undef) := by rw [List.getD_eq_getElem?_getD]; simp [this]
    have := h4 0 _ e
    simp only [Nat.add_zero] at this
    simp [run_load, this]

theorem store_sound {P E} (O : EnvOK P E) {base c} (H : HR base c) {t τ key off x v h'} (ht : E.ty t = some τ) (hl : x.cells.length = τ.size) (hw : writeC c.h key off x.cells = some h') (hv : RV c x v) (hp : c.Vk key) :
    ∃ c', c'.h = h' ∧ (Instr.storeAt t (.pointer (some ⟨c.mu key, off, none⟩)) v).run P c.w = .ok () c'.w ∧ HR base c' ∧ Ext base c c' := by
  obtain ⟨c', a1, a2, a3, a4, a5⟩ := writeC_sound P H hw hv.cells
  refine ⟨c', a1, ?_, a4, a5⟩
  have hsz : v.cells.size = τ.size := by rw [hv.cells_size, hl]
  simp [Instr.storeAt, Instr.sureAddr, storeVar, run_size O ht, hsz, a3]

end Ab
