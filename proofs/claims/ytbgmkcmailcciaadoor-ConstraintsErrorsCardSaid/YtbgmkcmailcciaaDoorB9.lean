/- Addresses, parts, composites. Own work, no conditions. -/
import Derived.Test.YtbgmkcmailcciaaDoorB8
set_option linter.unusedVariables false
set_option linter.unusedSimpArgs false
namespace Ab
open Go

theorem mk1_sound {P E} (O : EnvOK P E) {c : Cx} {t τ cs r vs} (ht : E.ty t = some τ) (h : TyI.mk1 τ cs = some r) (hv : RVs c cs vs) (hs : ∀ x ∈ cs, x.scal = true) :
    RV c r (if τ.d.isAgg then .agg ⟨vs⟩ else vs.getD 0 undef) ∧ vs.length = τ.size ∧ (τ.d.isAgg = false → vs.length = 1) := by
  unfold TyI.mk1 at h
  split at h
  case isFalse => cases h
  rename_i hl
  have := hv.length
  split at h
  · rename_i ha
    cases h
    rw [if_pos ha]
    exact ⟨.agg _ _ hv hs, by omega, fun hf => by rw [ha] at hf; cases hf⟩
  · rename_i ha
    rw [if_neg ha]
    split at h
    · cases h
      cases hv with
      | cons _ v _ vs h1 h2 => cases h2; exact ⟨by simpa using h1, by simpa using hl, fun _ => rfl⟩
    · cases h

theorem indexAddr_sound {P E} (O : EnvOK P E) {base c} (H : HR base c) {t x i r v vi} (h : indexAddrA E t x i c.h = some r) (hv : RV c x v) (hi : RV c i vi) : Comp P c (Instr.indexAt t v vi) r := by
  unfold indexAddrA at h
  split at h
  case h_2 => cases h
  rename_i ik i
  cases hi
  split at h
  · rename_i e _ _ _ _ xs _ ht
    have hu := under_slice O ht
    split at h
    case isFalse => cases h
    rename_i hib
    split at h
    case h_2 => cases h
    rename_i x τ hx he
    split at h
    case isFalse => cases h
    rename_i hsz
    obtain ⟨hsz, hscal⟩ := hsz
    cases h
    cases hv with
    | slE => simp at hx
    | slC _ vs b off esz cap cap' g0 g1 g2 g3 g4 g5 g6 g7 =>
      obtain ⟨u, q1, q2⟩ := g1.get hx
      have hesz : esz = τ.size := by rw [← g2 u (List.mem_of_getElem? q1), q2.cells_size, hsz]
      subst hesz
      refine ⟨.pointer (some ⟨b, off + i.toNat * τ.size, none⟩), ?_, ?_⟩
      · simp [Instr.indexAt, asIntOf, run_underlying hu, hib, run_size O he, addr_add]
      · refine .pel _ u.cells.toList b _ q2.cells (List.all_eq_true.1 hscal) (fun y hy => ?_) g4 (fun j cell hj => ?_)
        · have := g3 x (List.mem_of_getElem? hx)
          cases x <;> simp only [AV.cells, List.mem_singleton] at hy <;> (try (subst hy; exact this))
          simp only [AV.pure] at this
          exact (AV.pureL_all _).1 this y hy
        · have hlt : j < τ.size := by
            have := (List.getElem?_eq_some_iff.1 hj).1
            rw [Array.length_toList, g2 u (List.mem_of_getElem? q1)] at this; exact this
          have := g5 (i.toNat * τ.size + j) cell ?_
          · rwa [← Nat.add_assoc] at this
          · have h2 := flat_drop g2 i.toNat
            have h3 : (vs.drop i.toNat).flatMap (·.cells.toList) = u.cells.toList ++ (vs.drop (i.toNat + 1)).flatMap (·.cells.toList) := by
              have hlt2 := (List.getElem?_eq_some_iff.1 q1).1
              rw [List.drop_eq_getElem_cons hlt2, List.flatMap_cons]
              rw [(List.getElem?_eq_some_iff.1 q1).2]
            rw [← List.getElem?_drop, ← h2, h3, List.getElem?_append_left (List.getElem?_eq_some_iff.1 hj).1, hj]
  · rename_i e _ _ _ _ key off len _ ht
    have hu := under_slice O ht
    split at h
    case h_2 => cases h
    rename_i τ he
    split at h
    case isFalse => cases h
    rename_i hib
    cases h
    cases hv with
    | ref _ _ _ _ cap' g1 g2 g3 g4 =>
    exact ⟨.pointer (some ⟨c.mu key, off + i.toNat * τ.size, none⟩), by simp [Instr.indexAt, asIntOf, run_underlying hu, hib, run_size O he, addr_add], .ptr key _ g1⟩
  · rename_i n e _ _ _ _ key off ht
    have hu := under_arr O ht
    split at h
    case h_2 => cases h
    rename_i τ he
    split at h
    case isFalse => cases h
    rename_i hib
    cases h
    cases hv with
    | ptr _ _ g1 =>
    exact ⟨.pointer (some ⟨c.mu key, off + i.toNat * τ.size, none⟩), by simp [Instr.indexAt, asIntOf, run_underlying hu, hib, run_size O he, addr_add, Instr.sureAddr], .ptr key _ g1⟩
  · rename_i n e _ _ _ _ cs ht
    have hu := under_arr O ht
    split at h
    case h_2 => cases h
    rename_i τ he
    split at h
    case isFalse => cases h
    rename_i hib
    cases h
    cases hv with
    | pel _ vs b off g1 g2 g3 g4 g5 =>
    refine ⟨.pointer (some ⟨b, off + i.toNat * τ.size, none⟩), by simp [Instr.indexAt, asIntOf, run_underlying hu, hib, run_size O he, addr_add, Instr.sureAddr], ?_⟩
    exact .pel _ (vs.drop _) b _ (g1.drop _) (fun x hx => g2 x (List.mem_of_mem_drop hx)) (fun x hx => g3 x (List.mem_of_mem_drop hx)) g4 (fun j cell hj => by
      rw [List.getElem?_drop] at hj
      rw [Nat.add_assoc]; exact g5 _ _ hj)
  · cases h

theorem fields_get {fs : Array Field} {l : List (Nat × TypeId)} (e : (fs.toList.map fun f => (f.offset, f.type)) = l) {i off : Nat} {ft : TypeId} (h : l[i]? = some (off, ft)) : ∃ f : Field, fs[i]? = some f ∧ f.offset = off ∧ f.type = ft := by
  subst e
  rw [List.getElem?_map, Array.getElem?_toList] at h
  cases ef : fs[i]? with
  | none => rw [ef] at h; cases h
  | some f => rw [ef] at h; simp at h; exact ⟨f, rfl, h.1, h.2⟩

theorem fieldAddr_sound {P E} (O : EnvOK P E) {base c} (H : HR base c) {t x f r v} (h : fieldAddrA E t x f = some r) (hv : RV c x v) : Comp P c (Instr.fieldAt t v f) r := by
  unfold fieldAddrA at h
  split at h
  case h_2 => cases h
  rename_i fs _ _ _ _ ht
  obtain ⟨Fs, hu, hfs⟩ := under_strct O ht
  split at h
  case h_2 => cases h
  rename_i off ft hf
  obtain ⟨F, hF, rfl, rfl⟩ := fields_get hfs hf
  split at h
  case h_2 => cases h
  rename_i τ he
  split at h
  · cases h
  rename_i hsz
  split at h
  · rename_i key o
    cases h
    cases hv with
    | ptr _ _ g1 =>
    exact ⟨.pointer (some ⟨c.mu key, o + F.offset, none⟩), by simp [Instr.fieldAt, run_underlying hu, hF, Instr.sureAddr, fieldPlace, run_size O he, hsz, addr_add], .ptr key _ g1⟩
  · rename_i cs
    split at h
    case isFalse => cases h
    rename_i hle
    cases h
    cases hv with
    | pel _ vs b off g1 g2 g3 g4 g5 =>
    refine ⟨.pointer (some ⟨b, off + F.offset, none⟩), by simp [Instr.fieldAt, run_underlying hu, hF, Instr.sureAddr, fieldPlace, run_size O he, hsz, addr_add], ?_⟩
    exact .pel _ (vs.drop _) b _ (g1.drop _) (fun x hx => g2 x (List.mem_of_mem_drop hx)) (fun x hx => g3 x (List.mem_of_mem_drop hx)) g4 (fun j cell hj => by
      rw [List.getElem?_drop] at hj
      rw [Nat.add_assoc]; exact g5 _ _ hj)
  · cases h

theorem part_sound {P E} (O : EnvOK P E) {c : Cx} {t cs off r vs} (h : partA E t cs off = some r) (hv : RVs c cs vs) (hs : ∀ x ∈ cs, x.scal = true) : Comp P c (part t ⟨vs⟩ off) r := by
  unfold partA at h
  split at h
  case h_2 => cases h
  rename_i τ ht
  split at h
  case isFalse => cases h
  rename_i hle
  have hl := hv.length
  obtain ⟨q1, q2, q3⟩ := mk1_sound O ht h ((hv.drop off).take τ.size) (fun x hx => hs x (List.mem_of_mem_drop (List.mem_of_mem_take hx)))
  refine ⟨_, ?_, q1⟩
  unfold part
  simp only [Sem.run_bind, run_isAgg O ht, Result.andThen_ok]
  split
  · simp only [Sem.run_bind, run_size O ht, Result.andThen_ok, Sem.run_pure]
    congr 2
    apply Array.ext'
    simp
  · rename_i ha
    have hsz := q3 (by simpa using ha)
    rw [List.length_take, List.length_drop] at hsz
    have hlt : off < vs.length := by omega
    have e1 : (⟨vs⟩ : Array Value)[off]? = some vs[off] := by simp [hlt]
    rw [e1]
    simp only [Sem.run_pure]
    congr 1
    rw [List.getD_eq_getElem?_getD, List.getElem?_take, List.getElem?_drop]
    rw [if_pos (by omega)]
    simp [hlt]

theorem field_sound {P E} (O : EnvOK P E) {c : Cx} {t x f r v} (h : fieldA E t x f = some r) (hv : RV c x v) : Comp P c (Instr.field t v f) r := by
  unfold fieldA at h
  split at h
  case h_2 => cases h
  rename_i fs _ _ _ _ cs ht
  obtain ⟨Fs, hu, hfs⟩ := under_strct O ht
  split at h
  case h_2 => cases h
  rename_i off ft hf
  obtain ⟨F, hF, rfl, rfl⟩ := fields_get hfs hf
  cases hv with
  | agg _ vs g1 g2 =>
  obtain ⟨u, q1, q2⟩ := part_sound O h g1 g2
  exact ⟨u, by simp [Instr.field, run_underlying hu, hF, asAgg, q1], q2⟩

theorem index_sound {P E} (O : EnvOK P E) {c : Cx} {t x i r v vi} (h : indexA E t x i = some r) (hv : RV c x v) (hi : RV c i vi) : Comp P c (Instr.index t v vi) r := by
  unfold indexA at h
  split at h
  · rename_i n e _ _ _ _ cs ik i ht
    have hu := under_arr O ht
    split at h
    case h_2 => cases h
    rename_i τ he
    split at h
    case isFalse => cases h
    rename_i hib
    cases hi
    cases hv with
    | agg _ vs g1 g2 =>
    obtain ⟨u, q1, q2⟩ := part_sound O h g1 g2
    exact ⟨u, by simp [Instr.index, asIntOf, run_underlying hu, hib, run_size O he, q1], q2⟩
  · rename_i _ _ _ _ l ik i ht
    have hu := under_str O ht
    split at h
    case isFalse => cases h
    rename_i hib
    cases hi
    cases hv with
    | str _ s g1 =>
    subst g1
    rw [List.getElem?_map] at h
    cases e : s.data.toList[i.toNat]? with
    | none => rw [e] at h; cases h
    | some b =>
      rw [e] at h; cases h
      have hlt : i.toNat < s.size := by have := (List.getElem?_eq_some_iff.1 e).1; simpa using this
      have hb : s[i.toNat]? = some b := by
        rw [getElem?_pos s i.toNat hlt]
        have := (List.getElem?_eq_some_iff.1 e).2
        simp at this
        rw [← this]; rfl
      exact ⟨.int .u8 b.toNat, by simp [Instr.index, asIntOf, run_underlying hu, hib, hb], .int _ _⟩
  · cases h

theorem fold_cells : ∀ (us : List Value) (k off : Nat) (arr : Array Value), off + k + us.length ≤ arr.size →
    ((us.zipIdx k).foldl (fun cs (p : Value × Nat) => cs.setIfInBounds (off + p.2) p.1) arr).size = arr.size ∧
    ∀ i, ((us.zipIdx k).foldl (fun cs (p : Value × Nat) => cs.setIfInBounds (off + p.2) p.1) arr)[i]? = if i < off + k then arr[i]? else if i < off + k + us.length then us[i - (off + k)]? else arr[i]?
  | [], k, off, arr, h => by
    refine ⟨by simp, fun i => ?_⟩
    simp only [List.zipIdx_nil, List.foldl_nil, List.length_nil, Nat.add_zero]
    split <;> rfl
  | v :: r, k, off, arr, h => by
    simp only [List.zipIdx_cons, List.foldl_cons]
    simp only [List.length_cons] at h
    obtain ⟨h1, h2⟩ := fold_cells r (k + 1) off (arr.setIfInBounds (off + k) v) (by simp; omega)
    refine ⟨by rw [h1]; simp, fun i => ?_⟩
    rw [h2 i]
    by_cases e1 : i < off + k
    · rw [if_pos (by omega), if_pos e1, Array.getElem?_setIfInBounds, if_neg (by omega)]
    · rw [if_neg e1]
      by_cases e2 : i = off + k
      · subst e2
        rw [if_pos (by omega), if_pos (by simp), Array.getElem?_setIfInBounds, if_pos rfl, if_pos (by omega)]
        simp
      · rw [if_neg (by omega)]
        by_cases e3 : i < off + (k + 1) + r.length
        · rw [if_pos e3, if_pos (by simp; omega), show i - (off + k) = (i - (off + (k + 1))) + 1 by omega]
          simp
        · rw [if_neg e3, if_neg (by simp; omega), Array.getElem?_setIfInBounds, if_neg (by omega)]

theorem fill_sound {c : Cx} {placeA : Nat → Option (Nat × Nat)} : ∀ {ps : List (Nat × AV)} {cells out : List AV} {arr : Array Value} {vs : List Value},
    fillA placeA cells ps = some out → RVs c cells arr.toList → RVs c (ps.map (·.2)) vs → (∀ x ∈ cells, x.scal = true) →
    ∃ arr', Instr.fill placeA arr ((ps.map (·.1)).zip vs) = some arr' ∧ RVs c out arr'.toList ∧ (∀ x ∈ out, x.scal = true)
  | [], cells, out, arr, vs, h, hc, hv, hs => by
    simp [fillA] at h; subst h
    exact ⟨arr, by simp [Instr.fill], hc, hs⟩
  | (i, x) :: ps, cells, out, arr, vs, h, hc, hv, hs => by
    simp only [fillA] at h
    split at h
    · cases h
    rename_i off size hp
    split at h
    case isFalse => cases h
    rename_i hcnd
    obtain ⟨c1, c2, c3⟩ := hcnd
    cases hv with
    | cons _ u _ us h1 h2 =>
    have hul : u.cells.size = size := by rw [h1.cells_size, c1]
    have hal : arr.size = cells.length := by have := hc.length; simpa using this.symm
    obtain ⟨f1, f2⟩ := fold_cells u.cells.toList 0 off arr (by simp; omega)
    have hfold : u.cells.zipIdx.foldl (fun cs (p : Value × Nat) => cs.setIfInBounds (off + p.2) p.1) arr = (u.cells.toList.zipIdx 0).foldl (fun cs (p : Value × Nat) => cs.setIfInBounds (off + p.2) p.1) arr := by
      rw [← Array.foldl_toList]; simp
    have hstep : RVs c (writeL cells off x.cells) ((u.cells.toList.zipIdx 0).foldl (fun cs (p : Value × Nat) => cs.setIfInBounds (off + p.2) p.1) arr).toList := by
      refine .of_get (by rw [writeL_length _ _ _ (by omega), Array.length_toList]; exact hal.symm.trans f1.symm) fun j y v hy hv => ?_
      rw [writeL_get _ _ _ (by omega)] at hy
      rw [Array.getElem?_toList, f2] at hv
      simp only [Nat.add_zero, Array.length_toList, hul] at hv
      rw [c1] at hy
      split at hy
      · rename_i e1
        rw [if_pos e1] at hv
        obtain ⟨w1, q1, q2⟩ := hc.get hy
        rw [Array.getElem?_toList, hv] at q1; cases q1; exact q2
      · rename_i e1
        rw [if_neg e1] at hv
        split at hy
        · rename_i e2
          rw [if_pos e2] at hv
          obtain ⟨w1, q1, q2⟩ := h1.cells.get hy
          rw [hv] at q1; cases q1; exact q2
        · rename_i e2
          rw [if_neg e2] at hv
          obtain ⟨w1, q1, q2⟩ := hc.get hy
          rw [Array.getElem?_toList, hv] at q1; cases q1; exact q2
    have hsc : ∀ y ∈ writeL cells off x.cells, y.scal = true := by
      intro y hy
      unfold writeL at hy
      simp only [List.mem_append] at hy
      rcases hy with (hy | hy) | hy
      · exact hs y (List.mem_of_mem_take hy)
      · exact List.all_eq_true.1 c3 y hy
      · exact hs y (List.mem_of_mem_drop hy)
    obtain ⟨arr', g1, g2, g3⟩ := fill_sound (c := c) (placeA := placeA) h hstep h2 hsc
    refine ⟨arr', ?_, g2, g3⟩
    simp only [List.map_cons, List.zip_cons_cons, Instr.fill, hp]
    have : ¬ (u.cells.size ≠ size || off + u.cells.size > arr.size) = true := by simp [hul]; omega
    simp only [this]
    rw [hfold]
    exact g1

end Ab
