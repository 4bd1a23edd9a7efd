/- One operation of the evaluator is the model's. Own work, no conditions. -/
import Derived.Test.YtbgmkcmailcciaaDoorB15
set_option linter.unusedVariables false
set_option linter.unusedSimpArgs false
namespace Ab
open Go

theorem map_some {α β} {f : α → β} {o : Option α} {b : β} (h : o.map f = some b) : ∃ a, o = some a ∧ f a = b := by
  cases o with
  | none => cases h
  | some a => exact ⟨a, rfl, Option.some.inj h⟩

theorem sealA_of_pure {n : Nat} {h : Heap} {x : AV} (hp : x.pure = true) : sealA (n + 1) h x = some (x, h) := by
  unfold sealA; rw [if_pos hp]
theorem sealL_of_pure (n : Nat) : ∀ (l : List AV) (h : Heap), AV.pureL l = true → sealLW (sealA (n + 1)) h l = some (l, h)
  | [], h, _ => rfl
  | x :: l, h, hl => by
    simp only [AV.pureL, Bool.and_eq_true] at hl
    simp only [sealLW, sealA_of_pure hl.1, sealL_of_pure n l h hl.2]


theorem Made.frozen {P base c s lvl slot cs esz eagg len} (H : HR base c) (M : Made P base c s (.ref (newK c.h lvl slot cs true esz eagg).2 0 len (some len)) (newK c.h lvl slot cs true esz eagg).1) (hp : AV.pureL cs = true) (hl : len * esz ≤ cs.length) (ha : eagg = false → esz = 1) :
    Made P base c s (.sl false (chunk eagg esz len (cs.take (len * esz))) (some len)) (setK (newK c.h lvl slot cs true esz eagg).1 (newK c.h lvl slot cs true esz eagg).2 ⟨cs, true, false, true, esz, eagg⟩) := by
  obtain ⟨v, c', a1, a2, a3, a4, a5⟩ := M
  have hpt : AV.pureL (cs.take (len * esz)) = true := by
    rw [AV.pureL_all] at hp ⊢
    exact fun x hx => hp x (List.mem_of_mem_take hx)
  have e : sealA 2 c'.h (.ref (newK c.h lvl slot cs true esz eagg).2 0 len (some len)) = some (.sl false (chunk eagg esz len (cs.take (len * esz))) (some len), setK (newK c.h lvl slot cs true esz eagg).1 (newK c.h lvl slot cs true esz eagg).2 ⟨cs, true, false, true, esz, eagg⟩) := by
    rw [a1]
    unfold sealA
    simp only [AV.pure, Bool.false_eq_true, if_false, newK, lookK_setK, if_true, Nat.zero_add, List.drop_zero]
    rw [if_pos ⟨trivial, hl, ha⟩, sealL_of_pure 0 _ _ hpt]
  obtain ⟨c2, b1, b2, b3, b4, b5, b6⟩ := sealA_sound base 2 c' _ _ _ v e a4 a3
  exact ⟨v, c2, b1, by rw [b2]; exact a2, b6, b4, a5.trans b5 H⟩

theorem parts_zip {a : Act} (parts : Array (Nat × Operand)) : (parts.map fun (i, x) => (i, a.eval x)).toList = (parts.toList.map (·.1)).zip ((parts.toList.map (·.2)).map a.eval) := by
  rw [Array.toList_map, List.map_map]
  have : ∀ l : List (Nat × Operand), (l.map fun (i, x) => (i, a.eval x)) = (l.map (·.1)).zip (l.map (a.eval ∘ (·.2))) := by
    intro l
    induction l with
    | nil => rfl
    | cons p r ih => simp [ih]
  exact this _

theorem build_strct {P E} (O : EnvOK P E) {c : Cx} {ty fs a b z m} {is : List Nat} {xs : List AV} {vs : List Value} {cs} (ht : E.ty ty = some ⟨.strct fs, a, b, z, m⟩) (hil : is.length = xs.length)
    (hf : fillA (fun i => match fs[i]? with | some (off, ft) => (E.ty ft).map fun τ => (off, τ.size) | none => none) z (is.zip xs) = some cs) (hv : RVs c xs vs) (parts : Array (Nat × Value)) (hp : parts.toList = is.zip vs)
    (hall : fs.all (fun p => (E.ty p.2).isSome) = true) :
    Comp P c (Instr.build ty parts) (.agg cs) := by
  obtain ⟨i, zv, i1, i2, i3, i4, i5, i6, i7⟩ := zero_info O ht
  obtain ⟨Fs, hu, hfs⟩ := under_strct O ht
  have hpx : (is.zip xs).map (·.2) = xs := by rw [List.map_snd_zip]; omega
  have hpi : (is.zip xs).map (·.1) = is := by rw [List.map_fst_zip]; omega
  obtain ⟨arr', f1, f2, f3⟩ := fill_sound (c := c) (vs := vs) hf (i5 c) (by rw [hpx]; exact hv) i6
  rw [hpi] at f1
  refine ⟨.agg arr', ?_, by simpa using RV.agg _ _ f2 f3⟩
  have hpl : ∀ (l : List (Nat × TypeId)) (Fl : List Field), (Fl.map fun f => (f.offset, f.type)) = l → l.all (fun p => (E.ty p.2).isSome) = true →
      ∃ places, Fl.mapM (fun f => (P.info? f.type).map fun i => (f.offset, i.size)) = some places ∧ ∀ i : Nat, places[i]? = (match l[i]? with | some (off, ft) => (E.ty ft).map fun τ => (off, τ.size) | none => none) := by
    intro l Fl
    induction Fl generalizing l with
    | nil => intro h _; subst h; exact ⟨[], by simp, by simp⟩
    | cons f Fl ih =>
      intro h hl
      subst h
      simp only [List.map_cons, List.all_cons, Bool.and_eq_true] at hl
      obtain ⟨τ, hτ⟩ := Option.isSome_iff_exists.1 hl.1
      obtain ⟨places, p1, p2⟩ := ih _ rfl hl.2
      obtain ⟨j, _, j1, j2, _⟩ := (O.ty _ _ hτ).info
      refine ⟨(f.offset, τ.size) :: places, by simp [List.mapM_cons, j1, j2, p1], fun i => ?_⟩
      cases i with
      | zero => simp [hτ]
      | succ i => simpa using p2 i
  obtain ⟨places, p1, p2⟩ := hpl fs Fs.toList hfs hall
  refine run_build c.w ty parts arr' ?_
  have hfun : (fun i => match fs[i]? with | some (off, ft) => (E.ty ft).map fun τ => (off, τ.size) | none => none) = (fun i : Nat => places.toArray[i]?) := by
    funext i
    simpa using (p2 i).symm
  rw [hfun] at f1
  unfold Program.built
  simp only [i1, hu, i2, p1, hp]
  exact f1

theorem build_arr {P E} (O : EnvOK P E) {c : Cx} {ty n e a b z m τ} {is : List Nat} {xs : List AV} {vs : List Value} {cs} (ht : E.ty ty = some ⟨.arr n e, a, b, z, m⟩) (he : E.ty e = some τ) (hil : is.length = xs.length)
    (hf : fillA (fun i => some (i * τ.size, τ.size)) z (is.zip xs) = some cs) (hv : RVs c xs vs) (parts : Array (Nat × Value)) (hp : parts.toList = is.zip vs) :
    Comp P c (Instr.build ty parts) (.agg cs) := by
  obtain ⟨i, zv, i1, i2, i3, i4, i5, i6, i7⟩ := zero_info O ht
  obtain ⟨j, _, j1, j2, _⟩ := (O.ty _ _ he).info
  have hpx : (is.zip xs).map (·.2) = xs := by rw [List.map_snd_zip]; omega
  have hpi : (is.zip xs).map (·.1) = is := by rw [List.map_fst_zip]; omega
  obtain ⟨arr', f1, f2, f3⟩ := fill_sound (c := c) (vs := vs) hf (i5 c) (by rw [hpx]; exact hv) i6
  rw [hpi] at f1
  refine ⟨.agg arr', ?_, by simpa using RV.agg _ _ f2 f3⟩
  refine run_build c.w ty parts arr' ?_
  unfold Program.built
  simp only [i1, under_arr O ht, i2, j1, j2, hp]
  exact f1

theorem aOp_sound {P E} (O : EnvOK P E) {base c n t} {a : Act} {lvl o r} (h : aOp E lvl t c.h o = some r) (H : HR base c) (hb : base ≤ c.w.heap.size) (G : GOK E c) (F : FR c n t a.tmps) : OpS P base c (execOp a.eval o) r := by
  unfold aOp at h
  unfold execOp
  split at h
  · rename_i x e; simp only [e]
    obtain ⟨v, h1, rfl⟩ := map_some h
    exact ⟨_, c, rfl, rfl, opd_sound G F h1, H, .refl _ _⟩
  · rename_i x e; simp only [e]
    obtain ⟨v, h1, rfl⟩ := map_some h
    exact ⟨_, c, rfl, rfl, opd_sound G F h1, H, .refl _ _⟩
  · rename_i cc x y e; simp only [e]
    split at h
    case h_2 => cases h
    rename_i r hc
    obtain ⟨v, h1, rfl⟩ := map_some h
    have hcv := opd_sound G F hc
    generalize a.eval cc = vc at hcv
    cases hcv
    have := opd_sound G F h1
    refine ⟨_, c, rfl, by simp [asBool]; rfl, ?_, H, .refl _ _⟩
    cases r <;> simpa using this
  · rename_i ty e; simp only [e]
    split at h
    case h_2 => cases h
    rename_i τ hτ
    cases h
    exact (alloc_sound O H hb hτ rfl).op
  · rename_i ty x e; simp only [e]
    split at h
    case h_2 => cases h
    rename_i τ v hτ hv
    split at h
    case isFalse => cases h
    rename_i hs
    cases h
    exact (box_sound H hb (opd_sound G F hv) hs rfl).op
  · rename_i ty parts e; simp only [e]
    split at h
    · rename_i fs _ _ zero _ vs hτ hv
      split at h
      · cases h
      rename_i hall
      obtain ⟨cs, h1, rfl⟩ := map_some h
      have hvs := opdL_sound G F hv
      exact (build_strct O hτ (by have := hvs.length; simp at this ⊢; omega) h1 hvs _ (parts_zip parts) (by cases hq : fs.all (fun p => (E.ty p.2).isSome) with | true => rfl | false => exact absurd hq hall)).op H
    · rename_i n e' _ _ zero _ vs hτ hv
      split at h
      case h_2 => cases h
      rename_i τ he
      obtain ⟨cs, h1, rfl⟩ := map_some h
      have hvs := opdL_sound G F hv
      exact (build_arr O hτ he (by have := hvs.length; simp at this ⊢; omega) h1 hvs _ (parts_zip parts)).op H
    · cases h
  · rename_i ty len parts e; simp only [e]
    split at h
    case h_2 => cases h
    rename_i e' _ _ _ _ vs hτ hv
    split at h
    case h_2 => cases h
    rename_i τ he
    split at h
    case isFalse => cases h
    rename_i hcnd
    obtain ⟨k1, k2, k3, k4⟩ := hcnd
    split at h
    case h_2 => cases h
    rename_i cs hf
    have hvs := opdL_sound G F hv
    have made := fun h' k' hn => buildSlice_sound (lvl := lvl) (slot := o.dst.getD 0) (h' := h') (k' := k') O H hb hτ he k1 k2 k3 (by have := hvs.length; simp at this ⊢; omega) hf hvs hn _ (parts_zip parts)
    split at h
    · rename_i hz
      cases h
      exact (Made.frozen H (made _ _ rfl) hz.2.1 hz.2.2 (fun q => k4.resolve_right (by simp [q]))).op
    cases h
    exact (made _ _ rfl).op
  · rename_i ty p e; simp only [e]
    split at h
    case h_2 => cases h
    rename_i τ pv hτ hp
    split at h
    case h_2 => cases h
    rename_i cs hr
    obtain ⟨v, h1, rfl⟩ := map_some h
    exact (load_sound O H hτ hr h1 (opd_sound G F hp)).op H
  · rename_i ty p x e; simp only [e]
    split at h
    case h_2 => cases h
    rename_i τ key off v hτ hp hx
    split at h
    case isFalse => cases h
    rename_i hl
    obtain ⟨h', h1, rfl⟩ := map_some h
    have hpv := opd_sound G F hp
    generalize a.eval p = vp at hpv
    cases hpv with
    | ptr _ _ g1 =>
    obtain ⟨c', a1, a2, a3, a4⟩ := store_sound O H hτ hl h1 (opd_sound G F hx) g1
    exact ⟨c', a1, by simp [a2], a3, a4⟩
  · rename_i x e; simp only [e]
    split at h
    · rename_i k off hx
      cases h
      have hv := opd_sound G F hx
      generalize a.eval x = v at hv
      cases hv with
      | ptr _ _ g => exact ⟨_, c, rfl, rfl, .ptr _ _ g, H, .refl _ _⟩
    · rename_i cs hx
      cases h
      have hv := opd_sound G F hx
      generalize a.eval x = v at hv
      cases hv with
      | pel _ vs b off g1 g2 g3 g4 g5 => exact ⟨_, c, rfl, rfl, .pel _ vs b off g1 g2 g3 g4 g5, H, .refl _ _⟩
    · rename_i f fa fb hx
      cases h
      have hv := opd_sound G F hx
      generalize a.eval x = v at hv
      cases hv with
      | fn _ _ _ va vb g1 g2 => exact ⟨_, c, rfl, rfl, .fn _ _ _ va vb g1 g2, H, .refl _ _⟩
    · cases h
  · rename_i op ty x y _ e; simp only [e]
    split at h
    case h_2 => cases h
    rename_i u v hx hy
    obtain ⟨r', h1, rfl⟩ := map_some h
    exact (binA_sound O h1 (opd_sound G F hx) (opd_sound G F hy)).op H
  · rename_i op _ x e; simp only [e]
    split at h
    case h_2 => cases h
    rename_i u hx
    obtain ⟨r', h1, rfl⟩ := map_some h
    exact (unA_sound h1 (opd_sound G F hx)).op H
  · rename_i src dst x e; simp only [e]
    split at h
    case h_2 => cases h
    rename_i u hx
    split at h
    · rename_i e' _ _ _ _ l hs hd
      split at h
      case h_2 => cases h
      rename_i he
      cases h
      obtain ⟨ds, hds, _⟩ := under_of O hs
      exact (strbytes_sound O H hb hd he (by rw [hds]; rfl) (opd_sound G F hx) rfl).op
    · obtain ⟨r', h1, rfl⟩ := map_some h
      exact (convA_sound O H h1 (opd_sound G F hx)).op H
  · rename_i ty x e; simp only [e]
    split at h
    · cases h
    · rename_i τ v hni hτ hx
      cases h
      obtain ⟨d, hd1, hd2⟩ := under_of O hτ
      refine Comp.op ⟨.iface ty (a.eval x), ?_, .iface _ _ _ (opd_sound G F hx)⟩ H
      have : ∀ ms, d ≠ .interface ms := by
        rintro ms rfl
        cases hτd : τ.d <;> simp [dOK, hτd] at hd2
        cases τ
        simp only at hτd
        subst hτd
        exact hni _ _ _ _ _ rfl
      cases d <;> simp [Instr.makeInterface, run_underlying hd1] at this ⊢
    · cases h
  · rename_i f first cap e; simp only [e]
    split at h
    case h_2 => cases h
    rename_i u v hx hy
    cases h
    refine Comp.op ⟨_, rfl, ?_⟩ H
    have := RV.fn f u v _ _ (opdL_sound G F hx) (opdL_sound G F hy)
    have e1 : first.map a.eval = ⟨first.toList.map a.eval⟩ := by apply Array.ext'; simp
    have e2 : cap.map a.eval = ⟨cap.toList.map a.eval⟩ := by apply Array.ext'; simp
    rw [e1, e2]; exact this
  · rename_i ty l cc e; simp only [e]
    split at h
    case h_2 => cases h
    rename_i e' _ _ _ _ l' c' hτ hl hcv
    split at h
    case h_2 => cases h
    rename_i τ he
    split at h
    case isFalse => cases h
    rename_i hcnd
    obtain ⟨k1, k2, k3, k4, k5, k6, k7⟩ := hcnd
    cases h
    have h1 := opd_sound G F hl
    have h2 := opd_sound G F hcv
    generalize a.eval l = vl at h1
    generalize a.eval cc = vc at h2
    cases h1; cases h2
    exact (makeSlice_sound O H hb hτ he k1 k2 k3 k4 k5 k6 rfl).op
  · rename_i ty x lo hi mx e; simp only [e]
    split at h
    case h_2 => cases h
    rename_i xv l hh m hx hl hhh hm
    obtain ⟨r', h1, rfl⟩ := map_some h
    have orv : ∀ {q : Option Operand} {y}, (q.map (opd E t)).getD (some .nilp) = some y → ORV c (q.map fun _ => y) (q.map a.eval) := by
      intro q y hq
      cases q with
      | none => exact .none
      | some q => exact .some _ _ (opd_sound G F (by simpa using hq))
    exact (sliceA_sound O H h1 (opd_sound G F hx) (orv hl) (orv hhh) (orv hm)).op H
  · rename_i ty x f e; simp only [e]
    split at h
    case h_2 => cases h
    rename_i u hx
    obtain ⟨r', h1, rfl⟩ := map_some h
    exact (fieldAddr_sound O H h1 (opd_sound G F hx)).op H
  · rename_i ty x f e; simp only [e]
    split at h
    case h_2 => cases h
    rename_i u hx
    obtain ⟨r', h1, rfl⟩ := map_some h
    exact (field_sound O h1 (opd_sound G F hx)).op H
  · rename_i ty x i e; simp only [e]
    split at h
    case h_2 => cases h
    rename_i u v hx hi
    obtain ⟨r', h1, rfl⟩ := map_some h
    exact (indexAddr_sound O H h1 (opd_sound G F hx) (opd_sound G F hi)).op H
  · rename_i ty x i e; simp only [e]
    split at h
    case h_2 => cases h
    rename_i u v hx hi
    obtain ⟨r', h1, rfl⟩ := map_some h
    exact (index_sound O h1 (opd_sound G F hx) (opd_sound G F hi)).op H
  · rename_i x i e; simp only [e]
    split at h
    case h_2 => cases h
    rename_i vs hx
    obtain ⟨r', h1, rfl⟩ := map_some h
    have hv := opd_sound G F hx
    generalize a.eval x = v at hv
    cases hv with
    | tup _ us g =>
    obtain ⟨u, q1, q2⟩ := g.get h1
    exact Comp.op ⟨u, by simp [Instr.extract, q1], q2⟩ H
  · rename_i cl e; simp only [e]
    split at h
    · rename_i f args hcal hargs
      split at h
      case h_2 => cases h
      rename_i g first cap hf
      have hv := opd_sound G F hf
      generalize hfv : a.eval f = v at hv
      cases hv with
      | fn _ _ _ va vb g1 g2 =>
      have hvs := opdL_sound G F hargs
      have hrun : (do let d ← resolve a.eval cl o.type; invoke d.target d.args : Sem Next).run P c.w = (callFunc g ⟨va ++ cl.args.toList.map a.eval ++ vb⟩).run P c.w := by
        simp only [resolve, hcal, hfv, Deferred.ofValue, Sem.run_bind, Sem.run_pure, Result.andThen_ok, invoke]
        congr 2
        apply Array.ext'
        simp
      have hall := (g1.append hvs).append g2
      unfold callA at h
      split at h
      · rename_i hx
        obtain ⟨r', h1, rfl⟩ := map_some h
        obtain ⟨Fx, x1, x2, x3, x4, x5⟩ := O.ext g hx
        unfold extA at h1
        split at h1
        case h_2 => cases h1
        rename_i fa xs ca fb ys cb heq
        split at h1
        case h_2 => cases h1
        rename_i la lb ha hb2
        cases h1
        rw [heq] at hall
        generalize hvv : va ++ cl.args.toList.map a.eval ++ vb = vv at hall hrun
        cases hall with
        | cons _ u _ us k1 k2 =>
        cases k2 with
        | cons _ u2 _ us2 k3 k4 =>
        cases k4
        obtain ⟨b1, p1, p2⟩ := bytesOf_sound (P := P) H k1 ha
        obtain ⟨b2, p3, p4⟩ := bytesOf_sound (P := P) H k3 hb2
        refine ⟨.int .i64 (cmpI la lb), c, rfl, ?_, .int _ _, H, .refl _ _⟩
        rw [hrun]
        have x3' : ¬ (Fx.name = "runtime.NumGoroutine") := by simpa using x3
        simp only [callFunc, Sem.run_bind, run_program, Result.andThen_ok, x1, x3', if_false, x2, Option.isNone_none, if_true, x4, x5]
        have hm : (Sem.run P (Sem.mark (Mark.extern g) (Sem.pure ())) c.w) = .ok () c.w := rfl
        simp [mark, compare_two, goInt, cmp_bytes, x3', hm, p1, p3, p2, p4]
      · cases h
        exact ⟨_, hrun, hall⟩
    · rename_i b args hcal hargs
      have hvs := opdL_sound G F hargs
      obtain ⟨v, h', rfl, val, c', a1, a2, a3, a4, a5⟩ := builtinA_sound (ty := o.type) (cs := cl.args.map fun | .const _ => true | _ => false) O H hb h (vs := cl.args.map a.eval) (by simp) hvs
      refine ⟨val, c', a1, ?_, a3, a4, a5⟩
      simp only [resolve, hcal, Sem.run_bind, Sem.run_pure, Result.andThen_ok, invoke]
      exact a2
    · cases h
  · rename_i x _ u e; simp only [e]
    split at h
    · cases h
    · rename_i τ ty v hni hτ hx
      split at h
      case isFalse => cases h
      rename_i htu
      cases h
      subst htu
      obtain ⟨d, hd1, hd2⟩ := under_of O hτ
      have hv := opd_sound G F hx
      generalize a.eval x = q at hv
      cases hv with
      | iface _ _ w hw =>
      refine Comp.op ⟨.tuple ⟨[w, .bool true]⟩, ?_, .tup _ _ (.cons _ _ _ _ hw (.cons _ _ _ _ (.bool _) .nil))⟩ H
      have : ∀ ms, d ≠ .interface ms := by
        rintro ms rfl
        cases hτd : τ.d <;> simp [dOK, hτd] at hd2
        cases τ
        simp only at hτd
        subst hτd
        exact hni _ _ _ _ _ rfl
      cases d <;> simp [Instr.typeAssert, run_underlying hd1] at this ⊢
    · cases h
  · rename_i x e; simp only [e]
    split at h
    case h_2 => cases h
    rename_i ty v hx
    cases h
    have hv := opd_sound G F hx
    generalize a.eval x = u at hv
    cases hv with
    | iface _ _ w hw => exact ⟨.iface ty w, by simp [Instr.panic], .iface _ _ _ hw⟩
  · cases h

end Ab
