/- Slices, indexes, fields. Own work, no conditions. -/
import Derived.Test.YtbgmkcmailcciaaDoorB6
import Derived.Laws.BytesArg
set_option linter.unusedVariables false
set_option linter.unusedSimpArgs false
namespace Ab
open Go

theorem rvs_flatMap {c : Cx} : ∀ {xs : List AV} {vs : List Value}, RVs c xs vs → RVs c (xs.flatMap AV.cells) (vs.flatMap (·.cells.toList))
  | _, _, .nil => .nil
  | _, _, .cons x v xs vs h1 h2 => by
    simp only [List.flatMap_cons]
    exact h1.cells.append (rvs_flatMap h2)
theorem flat_length {vs : List Value} {sz : Nat} (h : ∀ v ∈ vs, v.cells.size = sz) : (vs.flatMap (·.cells.toList)).length = vs.length * sz := by
  induction vs with
  | nil => simp
  | cons v r ih =>
    have := ih fun u hu => h u (by simp [hu])
    simp only [List.flatMap_cons, List.length_append, this, List.length_cons]
    have h1 := h v (by simp)
    rw [Array.length_toList, h1, Nat.add_mul]; omega

/-- A source of elements, read. -/
theorem conts_sound (P : Program) {base c} (H : HR base c) {x v ys n} (h : conts c.h x = some (ys, n)) (hv : RV c x v) :
    ∃ vs, RVs c ys vs ∧ (Builtin.lenOf v).run P c.w = .ok n c.w ∧ ∀ sz m, ys.length = n * sz → m ≤ n → ∀ w' : World, w'.heap = c.w.heap → (Builtin.firstCells sz m v).run P w' = .ok (vs.take (m * sz)).toArray w' := by
  have hcell : ∀ w' : World, w'.heap = c.w.heap → ∀ a, w'.cell? a = c.w.cell? a := fun w' e a => by simp [World.cell?, e]
  unfold conts at h
  split at h
  · cases h
    cases hv with
    | slE f a cap cap' h1 h2 h3 =>
      refine ⟨[], .nil, by simp [Builtin.lenOf], fun sz m _ hm w' hw => ?_⟩
      obtain rfl : m = 0 := by simpa using hm
      cases a with
      | none => simp [Builtin.firstCells]
      | some a => simp [Builtin.firstCells, loadCells, loadCellsFrom]
    | slC xs vs b off esz cap cap' hne h1 h2 h3 h4 h5 h6 h7 =>
      refine ⟨vs.flatMap (·.cells.toList), rvs_flatMap h1, by simp [Builtin.lenOf], fun sz m hl hm w' hw => ?_⟩
      have hlen := (rvs_flatMap h1).length
      have hn := h1.length
      simp only [Builtin.firstCells]
      refine run_loadCells_at P b off _ w' _ ?_ fun j cell hj => (hcell w' hw _).trans ?_
      · rw [List.length_take, ← hlen, hl]
        exact (Nat.min_eq_left (Nat.mul_le_mul_right _ hm)).symm
      · rw [List.getElem?_take] at hj
        split at hj
        · exact h5 j cell hj
        · cases hj
  · split at h
    case h_2 => cases h
    rename_i key off len _ _ o ho
    split at h
    case isFalse => cases h
    rename_i hc
    cases h
    cases hv with
    | ref _ _ _ _ cap' h1 h2 h3 h4 =>
      obtain ⟨vs, a1, a2, a3, a4⟩ := H.cells ho hc.1 off (n * o.esz) hc.2
      refine ⟨vs, a1, by simp [Builtin.lenOf], fun sz m hl hm w' hw => ?_⟩
      have hlen := a1.length
      simp only [Builtin.firstCells]
      refine run_loadCells_at P _ off _ w' _ ?_ fun j cell hj => (hcell w' hw _).trans ?_
      · rw [List.length_take, ← hlen, hl]
        exact (Nat.min_eq_left (Nat.mul_le_mul_right _ hm)).symm
      · rw [List.getElem?_take] at hj
        split at hj
        · exact a4 j cell hj
        · cases hj
  · cases h
    cases hv with
    | str _ s hs =>
      subst hs
      have hsl : (s.data.toList.map fun b => (b.toNat : Int)).length = s.size := by simp
      rw [hsl]
      refine ⟨s.data.toList.map fun b => .int .u8 b.toNat, ?_, by simp [Builtin.lenOf], fun sz m hl hm w' hw => ?_⟩
      · refine .of_get (by simp) fun i x v hx hv => ?_
        simp only [List.getElem?_map, Option.map_map] at hx hv
        cases e : s.data.toList[i]? with
        | none => rw [e] at hx; cases hx
        | some b => rw [e] at hx hv; cases hx; cases hv; exact .int _ _
      · have hsz : m * sz = m := by
          rcases Nat.eq_zero_or_pos m with h0 | h0
          · subst h0; simp
          · have : sz = 1 := by
              simp at hl
              have h1 : 0 < s.data.size := by
                have : (List.map (fun b => (b.toNat : Int)) s.data.toList).length = s.data.size := by simp
                omega
              exact (Nat.eq_of_mul_eq_mul_left h1 ((Nat.mul_one _).trans hl)).symm
            simp [this]
        rw [hsz]
        simp only [Builtin.firstCells, Sem.run_pure]
        congr 1
        apply Array.ext'
        simp [ByteArray.data_extract, List.map_take, List.take_take]
  · cases h

theorem convA_go {c : Cx} : ∀ {ys : List AV} {l : List Int} {vs : List Value}, convA.go ys = some l → RVs c ys vs → vs = l.map (Value.int .u8) ∧ ∀ n ∈ l, 0 ≤ n ∧ n < 256
  | [], l, vs, h, hv => by
    simp [convA.go] at h; subst h
    cases hv; simp
  | y :: ys, l, vs, h, hv => by
    unfold convA.go at h
    split at h
    · rename_i h0; cases h0
    · rename_i n r heq
      cases heq
      split at h
      · rename_i hn
        cases e : convA.go ys with
        | none => rw [e] at h; cases h
        | some l' =>
          rw [e] at h; cases h
          cases hv with
          | cons _ v _ vs h1 h2 =>
            cases h1
            obtain ⟨a1, a2⟩ := convA_go e h2
            exact ⟨by simp [a1], fun m hm => by
              rcases List.mem_cons.1 hm with rfl | hm
              · exact hn
              · exact a2 m hm⟩
      · cases h
    · cases h

theorem strOfNums_toNat (l : List Int) (h : ∀ n ∈ l, 0 ≤ n ∧ n < 256) : ((Go.strOfNums l).data.toList.map fun b => (b.toNat : Int)) = l := by
  unfold Go.strOfNums
  simp only [List.map_map]
  conv => rhs; rw [← List.map_id l]
  refine List.map_congr_left fun n hn => ?_
  have := h n hn
  simp only [Function.comp, id, UInt8.toNat_ofNat']
  omega

theorem convA_sound {P E} (O : EnvOK P E) {base c} (H : HR base c) {src dst x r v} (h : convA E src dst x c.h = some r) (hv : RV c x v) : Comp P c (convert src dst v) r := by
  unfold convA at h
  split at h
  · rename_i hs hd
    cases h; cases hv
    obtain ⟨d, hd1, _⟩ := under_of O hs
    refine ⟨_, ?_, .int _ _⟩
    simp only [convert, Sem.run_bind, run_underlying hd1, run_underlying (under_int O hd), Result.andThen_ok]
    cases d <;> simp [Conv.intToInt]
  · rename_i e _ _ _ _ _ _ _ _ _ hs hd
    have hs' := under_slice O hs
    have hd' := under_str O hd
    split at h
    case h_2 => cases h
    rename_i he
    have he' := under_int O he
    split at h
    · cases h
    · rename_i hns
      split at h
      case h_2 => cases h
      rename_i cs n hcs
      split at h
      case isFalse => cases h
      rename_i hcn
      cases hg : convA.go cs with
      | none => rw [hg] at h; cases h
      | some l =>
        rw [hg] at h; cases h
        obtain ⟨vs, a1, a2, a3⟩ := conts_sound P H hcs hv
        have hlen := a1.length
        obtain ⟨g1, g2⟩ := convA_go hg a1
        have hll : l.length = n := by rw [← hcn, hlen, g1]; simp
        have hf := a3 1 n (by omega) (Nat.le_refl n) c.w rfl
        cases v with
        | slice a m cap =>
          have hmn : m = n := by simpa [Builtin.lenOf] using a2
          subst hmn
          cases a with
          | none =>
            have h0 : m = 0 := by
              cases hv with
              | slE => rfl
            subst h0
            have : l = [] := List.eq_nil_of_length_eq_zero hll
            subst this
            exact ⟨_, run_convert_bytes_nil c.w src _ hs' he' _ _ dst hd', .str _ _ rfl⟩
          | some a =>
            refine ⟨.string (Go.strOfNums l), ?_, .str _ _ (strOfNums_toNat l g2)⟩
            simp only [Builtin.firstCells, Nat.mul_one] at hf
            rw [run_convert_bytes_string c.w src dst _ _ m cap hs' he' hd', run_bytesToString c.w _ m cap l ?_]
            · simp only [foldl_push_bytes, Go.strOfNums]
              simp [ByteArray.empty, ByteArray.emptyWithCapacity]
              rfl
            · rw [hf, List.take_of_length_le (by omega), g1]
        | string s =>
          exfalso
          cases hv with
          | str _ _ e1 => exact hns _ rfl
        | _ => cases hv <;> simp [Builtin.lenOf] at a2
  · rename_i hs hd
    cases h
    cases hv with
    | str _ s e1 =>
      obtain ⟨d, hd1, _⟩ := under_of O hs
      refine ⟨.string s, ?_, .str _ _ e1⟩
      simp only [convert, Sem.run_bind, run_underlying hd1, run_underlying (under_str O hd), Result.andThen_ok]
      cases d <;> simp
  · cases h

theorem range_find (p : Nat → Bool) (n : Nat) : (List.range (n + 1)).find? p = if p 0 then some 0 else ((List.range n).find? fun i => p (i + 1)).map (· + 1) := by
  rw [List.range_succ_eq_map, List.find?_cons]
  cases p 0 with
  | true => rfl
  | false => simp [List.find?_map, Function.comp_def]
def cmpU (l m : List UInt8) : Int :=
  match (List.range (min l.length m.length)).find? fun i => l[i]! != m[i]! with
  | some i => if l[i]! < m[i]! then -1 else 1
  | none => if l.length < m.length then -1 else if l.length > m.length then 1 else 0
theorem cmpU_eq : ∀ l m : List UInt8, cmpU l m = cmpI (l.map fun b => (b.toNat : Int)) (m.map fun b => (b.toNat : Int))
  | [], [] => rfl
  | [], _ :: _ => by simp [cmpU, cmpI]
  | _ :: _, [] => by simp [cmpU, cmpI]
  | a :: l, b :: m => by
    have ih := cmpU_eq l m
    unfold cmpU at ih ⊢
    have hm : min (a :: l).length (b :: m).length = min l.length m.length + 1 := by simp only [List.length_cons]; omega
    rw [hm, range_find]
    simp only [List.map_cons, cmpI]
    by_cases e : a = b
    · subst e
      simp only [List.getElem!_cons_zero, bne_self_eq_false, Bool.false_eq_true, if_false, if_true, List.getElem!_cons_succ]
      rw [← ih]
      cases (List.range (min l.length m.length)).find? fun i => l[i]! != m[i]! with
      | none => simp
      | some i => simp
    · have h1 : (a != b) = true := by simpa using e
      have h2 : ¬ ((a.toNat : Int) = b.toNat) := fun h => e (UInt8.toNat_inj.1 (by omega))
      simp only [List.getElem!_cons_zero, h1, if_true, h2, if_false]
      by_cases h : a < b
      · have : (a.toNat : Int) < b.toNat := by have := UInt8.lt_iff_toNat_lt.1 h; omega
        simp [h, this]
      · have : ¬ (a.toNat : Int) < b.toNat := fun h' => h (UInt8.lt_iff_toNat_lt.2 (by omega))
        simp [h, this]
theorem ba_get (a : ByteArray) (i : Nat) : a[i]! = a.data.toList[i]! := by
  by_cases h : i < a.size
  · have h2 : i < a.data.toList.length := by simpa using h
    rw [getElem!_pos a i h, getElem!_pos a.data.toList i h2]
    simp [ByteArray.getElem_eq_getElem_data]
  · have h2 : ¬ i < a.data.toList.length := by simpa using h
    rw [getElem!_neg a i h, getElem!_neg a.data.toList i h2]
theorem cmp_bytes (a b : ByteArray) : Extern.BytealgCompare.cmp a b = cmpI (a.data.toList.map fun b => (b.toNat : Int)) (b.data.toList.map fun b => (b.toNat : Int)) := by
  rw [← cmpU_eq]
  unfold Extern.BytealgCompare.cmp cmpU
  have e1 : a.size = a.data.toList.length := by simp
  have e2 : b.size = b.data.toList.length := by simp
  simp only [ba_get, e1, e2]
  rfl
theorem run_loadBytes {P : Program} {b : Nat} : ∀ (l : List Int) (off : Nat) (acc : ByteArray) (w : World), (∀ i n, l[i]? = some n → w.cell? ⟨b, off + i, none⟩ = some (.int .u8 n)) →
    (Extern.Bytes.loadBytes ⟨b, off, none⟩ l.length acc).run P w = .ok ⟨acc.data ++ (l.map fun n => n.toNat.toUInt8).toArray⟩ w
  | [], off, acc, w, h => by simp [Extern.Bytes.loadBytes]
  | n :: l, off, acc, w, h => by
    have h0 := h 0 n rfl
    simp only [Nat.add_zero] at h0
    have hadd : (⟨b, off, none⟩ : Addr).add 1 = ⟨b, off + 1, none⟩ := by unfold Addr.add; split <;> simp_all
    have ih := run_loadBytes (P := P) l (off + 1) (acc.push n.toNat.toUInt8) w fun i m hm => by
      have := h (i + 1) m (by simpa using hm)
      rwa [show off + (i + 1) = off + 1 + i by omega] at this
    simp only [List.length_cons, Extern.Bytes.loadBytes, Sem.run_bind, hadd, load, Sem.run, h0]
    simp only [Result.andThen]
    rw [ih]
    congr 2
    simp [ByteArray.push]

theorem bytesOf_sound {P : Program} {base c f xs cap v l} (H : HR base c) (hv : RV c (.sl f xs cap) v) (hg : convA.go xs = some l) :
    ∃ b : ByteArray, (Extern.Bytes.bytesOf v).run P c.w = .ok b c.w ∧ (b.data.toList.map fun b => (b.toNat : Int)) = l := by
  cases hv with
  | slE f a cap cap' h1 h2 h3 =>
    simp [convA.go] at hg
    subst hg
    cases a with
    | none => exact ⟨.empty, by simp [Extern.Bytes.bytesOf], rfl⟩
    | some a => exact ⟨.empty, by simp [Extern.Bytes.bytesOf, Extern.Bytes.loadBytes], rfl⟩
  | slC _ vs b off esz cap cap' hne h hv hp hb hc hl hcap =>
    obtain ⟨g1, g2⟩ := convA_go hg h
    have hlen : l.length = xs.length := by rw [h.length, g1]; simp
    have hcell : ∀ i n, l[i]? = some n → c.w.cell? ⟨b, off + i, none⟩ = some (.int .u8 n) := by
      intro i n hi
      refine hc i _ ?_
      rw [g1]
      have : ∀ q : List Int, (q.map (Value.int .u8)).flatMap (fun v => v.cells.toList) = q.map (Value.int .u8) := by
        intro q
        induction q with
        | nil => rfl
        | cons x q ih => rw [List.map_cons, List.flatMap_cons, ih]; rfl
      rw [this, List.getElem?_map, hi]; rfl
    have := run_loadBytes (P := P) l off .empty c.w hcell
    refine ⟨_, by simp only [Extern.Bytes.bytesOf]; rw [← hlen]; exact this, ?_⟩
    have e : ∀ q : List Int, (∀ n ∈ q, 0 ≤ n ∧ n < 256) → (q.map fun n => n.toNat.toUInt8).map (fun b => (b.toNat : Int)) = q := by
      intro q
      induction q with
      | nil => intro _; rfl
      | cons x q ih =>
        intro hq
        have h1 := hq x (by simp)
        simp only [List.map_cons, ih fun n hn => hq n (by simp [hn])]
        congr 1
        have : x.toNat.toUInt8.toNat = x.toNat := by
          rw [Nat.toUInt8_eq, UInt8.toNat_ofNat']
          omega
        rw [this]; omega
    have := e l g2
    have h0 : ByteArray.empty.data = #[] := rfl
    rw [h0]
    simpa using this

theorem compare_two (u v : Value) : Extern.BytealgCompare.compare ⟨[u, v]⟩ = (do pure (goInt (Extern.BytealgCompare.cmp (← Extern.Bytes.bytesOf u) (← Extern.Bytes.bytesOf v)))) := rfl

end Ab
