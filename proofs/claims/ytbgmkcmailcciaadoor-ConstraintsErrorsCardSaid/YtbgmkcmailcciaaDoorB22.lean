/- An operation looks at its operands alone. Own work, no conditions. -/
import Derived.Test.YtbgmkcmailcciaaDoorB21
set_option linter.unusedVariables false
set_option linter.unusedSimpArgs false
namespace Ab
open Go

def withH : OpR → Heap → OpR
  | .val v _, h => .val v h
  | .skip _, h => .skip h
  | r, _ => r
def heapR : OpR → Heap → Heap
  | .val _ h, _ => h
  | .skip h, _ => h
  | _, h => h

/-- What an operation turns, and that it does so wherever it stands. -/
def Loc (E : Env) (lvl : Nat) (t : Fr) (h : Heap) (o : Oper) (r : OpR) : Prop :=
  ∃ us : List (Key × AObj), (∀ p ∈ us, (p.1 ∈ keysOp E t o ∧ clsOf o.op = 3 ∧ (lookK h p.1).isSome = true) ∨ (p.1 = (lvl, o.dst.getD 0, genOf h lvl (o.dst.getD 0)) ∧ 2 ≤ clsOf o.op ∧ (∀ ty p x, o.op ≠ .store ty p x))) ∧
    heapR r h = applyS h us ∧ ∀ t2 h2, Agree E lvl t h t2 h2 o → aOp E lvl t2 h2 o = some (withH r (applyS h2 us))

theorem loc0 {E lvl t h o v} (f : ∀ t2 h2, Agree E lvl t h t2 h2 o → aOp E lvl t2 h2 o = some (.val v h2)) : Loc E lvl t h o (.val v h) :=
  ⟨[], by simp, rfl, f⟩
theorem locNew {E lvl t h o v h' k' cs ex sz ag} (hn : newK h lvl (o.dst.getD 0) cs ex sz ag = (h', k')) (hc : 2 ≤ clsOf o.op) (hs : ∀ ty p x, o.op ≠ .store ty p x)
    (f : ∀ t2 h2, Agree E lvl t h t2 h2 o → newK h2 lvl (o.dst.getD 0) cs ex sz ag = (setK h2 k' ⟨cs, true, true, ex, sz, ag⟩, k') → aOp E lvl t2 h2 o = some (.val v (setK h2 k' ⟨cs, true, true, ex, sz, ag⟩))) : Loc E lvl t h o (.val v h') := by
  obtain ⟨e1, e2, e3⟩ := newK_eq hn
  refine ⟨[(k', ⟨cs, true, true, ex, sz, ag⟩)], fun p hp => ?_, e2, fun t2 h2 ag2 => f t2 h2 ag2 (e3 h2 (ag2.gen.resolve_left (by omega)))⟩
  simp at hp; subst hp
  exact .inr ⟨e1, hc, hs⟩

theorem appendA_loc {E lvl slot h t s x r} (hr : appendA E lvl slot h t s x = some r) : ∃ (v : AV) (us : List (Key × AObj)), r = .val v (applyS h us) ∧ (∀ p ∈ us, (p.1 ∈ s.keys ∧ (lookK h p.1).isSome = true) ∨ p.1 = (lvl, slot, genOf h lvl slot)) ∧
    ∀ h2, (∀ k ∈ s.keys ++ x.keys, lookK h2 k = lookK h k) → genOf h2 lvl slot = genOf h lvl slot → appendA E lvl slot h2 t s x = some (.val v (applyS h2 us)) := by
  unfold appendA at hr
  split at hr
  case h_2 => cases hr
  rename_i e _ _ _ _ ht
  split at hr
  case h_2 => cases hr
  rename_i τ ys n he hc
  have hc2 : ∀ h2, (∀ k ∈ s.keys ++ x.keys, lookK h2 k = lookK h k) → conts h2 x = some (ys, n) := fun h2 ha => (conts_agree fun k hk => ha k (by simp [hk])).trans hc
  split at hr
  case isFalse => cases hr
  rename_i hcnd
  split at hr
  · rename_i f xs cap
    split at hr
    · cases hr
    rename_i cp
    split at hr
    · rename_i hroom
      split at hr
      case isFalse => cases hr
      rename_i hn0
      cases hr
      refine ⟨_, [], rfl, by simp, fun h2 ha hg => ?_⟩
      unfold appendA
      simp only [ht, he, hc2 h2 ha]
      rw [if_pos hcnd, if_pos hroom, if_pos hn0]; rfl
    · rename_i hroom
      split at hr
      case isFalse => cases hr
      rename_i hcnd2
      simp only [Option.some.injEq] at hr
      cases hn : newK h lvl slot (xs.flatMap AV.cells ++ ys) false τ.size τ.d.isAgg with
      | mk h' k' =>
      rw [hn] at hr
      subst hr
      obtain ⟨e1, e2, e3⟩ := newK_eq hn
      refine ⟨_, [(k', ⟨xs.flatMap AV.cells ++ ys, true, true, false, τ.size, τ.d.isAgg⟩)], by rw [e2]; rfl, fun p hp => by simp at hp; subst hp; exact .inr e1, fun h2 ha hg => ?_⟩
      unfold appendA
      simp only [ht, he, hc2 h2 ha]
      rw [if_pos hcnd, if_neg hroom, if_pos hcnd2, e3 h2 hg]; rfl
  · rename_i k off len cap
    split at hr
    case h_2 => cases hr
    rename_i o hk
    have hk2 : ∀ h2, (∀ q ∈ (AV.ref k off len cap).keys ++ x.keys, lookK h2 q = lookK h q) → lookK h2 k = some o := fun h2 ha => (ha k (by simp [AV.keys])).trans hk
    split at hr
    case isFalse => cases hr
    rename_i hcnd2
    split at hr
    · rename_i cp
      split at hr
      · rename_i hroom
        split at hr
        case h_2 => cases hr
        rename_i h1 hw
        cases hr
        obtain ⟨o', e1, e2⟩ := writeC_agree hw
        refine ⟨_, [(k, o')], by rw [e1]; rfl, fun p hp => by simp at hp; subst hp; exact .inl ⟨by simp [AV.keys], by simp [hk]⟩, fun h2 ha hg => ?_⟩
        unfold appendA
        simp only [ht, he, hc2 h2 ha, hk2 h2 ha]
        rw [if_pos hcnd, if_pos hcnd2, if_pos hroom, e2 h2 (ha k (by simp [AV.keys]))]; rfl
      · rename_i hroom
        split at hr
        case isFalse => cases hr
        rename_i hcnd3
        simp only [Option.some.injEq] at hr
        cases hn : newK h lvl slot ((o.cells.drop off).take (len * o.esz) ++ ys) false τ.size τ.d.isAgg with
        | mk h' k' =>
        rw [hn] at hr
        subst hr
        obtain ⟨e1, e2, e3⟩ := newK_eq hn
        refine ⟨_, [(k', ⟨(o.cells.drop off).take (len * o.esz) ++ ys, true, true, false, τ.size, τ.d.isAgg⟩)], by rw [e2]; rfl, fun p hp => by simp at hp; subst hp; exact .inr e1, fun h2 ha hg => ?_⟩
        unfold appendA
        simp only [ht, he, hc2 h2 ha, hk2 h2 ha]
        rw [if_pos hcnd, if_pos hcnd2, if_neg hroom, if_pos hcnd3, e3 h2 hg]; rfl
    · split at hr
      case isFalse => cases hr
      rename_i hcnd3
      simp only [Option.some.injEq] at hr
      cases hn : newK (setK h k { o with live := false }) lvl slot (o.cells ++ ys) false o.esz o.eagg with
      | mk h' k' =>
      rw [hn] at hr
      subst hr
      obtain ⟨e1, e2, e3⟩ := newK_eq hn
      have hg0 : genOf (setK h k { o with live := false }) lvl slot = genOf h lvl slot := genOf_setK _ _ _ _ _ (.inl (by simp [hk]))
      refine ⟨_, [(k, { o with live := false }), (k', ⟨o.cells ++ ys, true, true, false, o.esz, o.eagg⟩)], by rw [e2]; rfl, fun p hp => ?_, fun h2 ha hg => ?_⟩
      · simp at hp
        rcases hp with rfl | rfl
        · exact .inl ⟨by simp [AV.keys], by simp [hk]⟩
        · exact .inr (by rw [e1, hg0])
      · have hk22 := hk2 h2 ha
        have hg2 : genOf (setK h2 k { o with live := false }) lvl slot = genOf (setK h k { o with live := false }) lvl slot := by
          rw [hg0, genOf_setK _ _ _ _ _ (.inl (by simp [hk22])), hg]
        unfold appendA
        simp only [ht, he, hc2 h2 ha, hk22]
        rw [if_pos hcnd, if_pos hcnd2, if_pos hcnd3, e3 _ hg2]; rfl
  · cases hr

theorem copyA_loc {E h t d s r} (hr : copyA E h t d s = some r) : ∃ (v : AV) (us : List (Key × AObj)), r = .val v (applyS h us) ∧ (∀ p ∈ us, p.1 ∈ d.keys ∧ (lookK h p.1).isSome = true) ∧
    ∀ h2, (∀ k ∈ d.keys ++ s.keys, lookK h2 k = lookK h k) → copyA E h2 t d s = some (.val v (applyS h2 us)) := by
  unfold copyA at hr
  split at hr
  case h_2 => cases hr
  rename_i e _ _ _ _ ht
  split at hr
  · rename_i τ ys n k off len cap he hc
    split at hr
    case isFalse => cases hr
    rename_i hyl
    simp only at hr
    split at hr
    case h_2 => cases hr
    rename_i h1 hw
    cases hr
    obtain ⟨o', e1, e2⟩ := writeC_agree hw
    refine ⟨_, [(k, o')], by rw [e1]; rfl, fun p hp => ?_, fun h2 ha => ?_⟩
    · simp at hp; subst hp
      refine ⟨by simp [AV.keys], ?_⟩
      unfold writeC at hw
      split at hw
      · rename_i ho; simp [ho]
      · cases hw
    · unfold copyA
      simp only [ht, he, (conts_agree fun k hk => ha k (by simp [hk])).trans hc]
      rw [if_pos hyl]
      rw [e2 h2 (ha k (by simp [AV.keys]))]; rfl
  · rename_i τ ys n f cap he hc
    cases hr
    refine ⟨_, [], rfl, by simp, fun h2 ha => ?_⟩
    unfold copyA
    simp only [ht, he, (conts_agree fun k hk => ha k (by simp [hk])).trans hc]; rfl
  · cases hr


theorem aOp_loc {E lvl t h o r} (hr : aOp E lvl t h o = some r) : Loc E lvl t h o r := by
  have hr0 := hr
  unfold aOp at hr
  split at hr
  · rename_i x e
    obtain ⟨v, h1, rfl⟩ := map_some hr
    refine loc0 fun t2 h2 ag => ?_
    have ho := ag.opd x (by simp [e, Op.operands])
    simp only [aOp, e, ho, h1]; rfl
  · rename_i x e
    obtain ⟨v, h1, rfl⟩ := map_some hr
    refine loc0 fun t2 h2 ag => ?_
    have ho := ag.opd x (by simp [e, Op.operands])
    simp only [aOp, e, ho, h1]; rfl
  · rename_i cc x y e
    split at hr
    case h_2 => cases hr
    rename_i b hc
    obtain ⟨v, h1, rfl⟩ := map_some hr
    refine loc0 fun t2 h2 ag => ?_
    have o1 := ag.opd cc (by simp [e, Op.operands])
    have o2 := ag.opd x (by simp [e, Op.operands])
    have o3 := ag.opd y (by simp [e, Op.operands])
    simp only [aOp, e, o1, hc]
    cases b <;> simp only [Bool.false_eq_true, if_false, if_true, o2, o3] at h1 ⊢ <;> rw [h1] <;> rfl
  · rename_i ty e
    split at hr
    case h_2 => cases hr
    rename_i τ hτ
    cases hr
    refine locNew rfl (by simp [e, clsOf]) (by simp [e]) fun t2 h2 ag hn => ?_
    simp only [aOp, e, hτ, hn]
  · rename_i ty x e
    split at hr
    case h_2 => cases hr
    rename_i τ v hτ hv
    split at hr
    case isFalse => cases hr
    rename_i hs
    cases hr
    refine locNew rfl (by simp [e, clsOf]) (by simp [e]) fun t2 h2 ag hn => ?_
    have o1 := ag.opd x (by simp [e, Op.operands])
    simp only [aOp, e, hτ, o1, hv]
    rw [if_pos hs, hn]
  · rename_i ty parts e
    have hag : ∀ {t2 h2}, Agree E lvl t h t2 h2 o → opdL E t2 (parts.toList.map (·.2)) = opdL E t (parts.toList.map (·.2)) := fun ag => opdL_agree fun x hx => ag.opd x (by simpa [e, Op.operands] using hx)
    split at hr
    · rename_i fs _ _ zero _ vs hτ hv
      split at hr
      · cases hr
      rename_i hall
      obtain ⟨cs, h1, rfl⟩ := map_some hr
      refine loc0 fun t2 h2 ag => ?_
      simp only [aOp, e, hτ, hag ag, hv]
      rw [if_neg hall, h1]; rfl
    · rename_i n e' _ _ zero _ vs hτ hv
      split at hr
      case h_2 => cases hr
      rename_i τ he
      obtain ⟨cs, h1, rfl⟩ := map_some hr
      refine loc0 fun t2 h2 ag => ?_
      simp only [aOp, e, hτ, hag ag, hv, he]
      rw [h1]; rfl
    · cases hr
  · rename_i ty len parts e
    have hag : ∀ {t2 h2}, Agree E lvl t h t2 h2 o → opdL E t2 (parts.toList.map (·.2)) = opdL E t (parts.toList.map (·.2)) := fun ag => opdL_agree fun x hx => ag.opd x (by simpa [e, Op.operands] using hx)
    split at hr
    case h_2 => cases hr
    rename_i e' _ _ _ _ vs hτ hv
    split at hr
    case h_2 => cases hr
    rename_i τ he
    split at hr
    case isFalse => cases hr
    rename_i hcnd
    split at hr
    case h_2 => cases hr
    rename_i cs hf
    split at hr
    · rename_i hz
      cases hr
      obtain ⟨n1, n2, n3⟩ := newK_eq (h := h) (lvl := lvl) (slot := o.dst.getD 0) (cs := cs) (ex := true) (sz := τ.size) (ag := τ.d.isAgg) rfl
      refine ⟨[((newK h lvl (o.dst.getD 0) cs true τ.size τ.d.isAgg).2, ⟨cs, true, true, true, τ.size, τ.d.isAgg⟩), ((newK h lvl (o.dst.getD 0) cs true τ.size τ.d.isAgg).2, ⟨cs, true, false, true, τ.size, τ.d.isAgg⟩)], fun p hp => ?_, rfl, fun t2 h2 ag2 => ?_⟩
      · have : p.1 = (newK h lvl (o.dst.getD 0) cs true τ.size τ.d.isAgg).2 := by
          rcases List.mem_cons.1 hp with rfl | hp
          · rfl
          · rcases List.mem_cons.1 hp with rfl | hp
            · rfl
            · cases hp
        exact .inr ⟨this, by simp [e, clsOf], by simp [e]⟩
      · have hn := n3 h2 (ag2.gen.resolve_left (by simp [e, clsOf]))
        simp only [aOp, e, hτ, hag ag2, hv, he]
        rw [if_pos hcnd]
        simp only [hf]
        rw [if_pos hz]
        simp only [hn]
        rfl
    rename_i hz
    cases hr
    refine locNew rfl (by simp [e, clsOf]) (by simp [e]) fun t2 h2 ag hn => ?_
    simp only [aOp, e, hτ, hag ag, hv, he]
    rw [if_pos hcnd]
    simp only [hf]
    rw [if_neg hz]
    simp only [hn]
  · rename_i ty p e
    split at hr
    case h_2 => cases hr
    rename_i τ pv hτ hp
    split at hr
    case h_2 => cases hr
    rename_i cs hrd
    obtain ⟨v, h1, rfl⟩ := map_some hr
    refine loc0 fun t2 h2 ag => ?_
    have o1 := ag.opd p (by simp [e, Op.operands])
    have hh : ∀ k ∈ pv.keys, lookK h2 k = lookK h k := fun k hk => by
      rcases ag.heap with g | g | g
      · simp [e, clsOf] at g
      · simp [e, clsOf] at g
      · exact g k (keysOp_mem (by simp [e, Op.operands]) hp k hk)
    simp only [aOp, e, hτ, o1, hp, readC_agree hh, hrd, h1]; rfl
  · rename_i ty p x e
    split at hr
    case h_2 => cases hr
    rename_i τ key off v hτ hp hx
    split at hr
    case isFalse => cases hr
    rename_i hl
    obtain ⟨h', h1, rfl⟩ := map_some hr
    obtain ⟨o', e1, e2⟩ := writeC_agree h1
    refine ⟨[(key, o')], fun q hq => ?_, by rw [e1]; rfl, fun t2 h2 ag => ?_⟩
    · simp at hq; subst hq
      refine .inl ⟨keysOp_mem (x := p) (by simp [e, Op.operands]) hp key (by simp [AV.keys]), by simp [e, clsOf], ?_⟩
      unfold writeC at h1
      split at h1
      · rename_i ho; simp [ho]
      · cases h1
    · have o1 := ag.opd p (by simp [e, Op.operands])
      have o2 := ag.opd x (by simp [e, Op.operands])
      have hh : lookK h2 key = lookK h key := by
        rcases ag.heap with g | g | g
        · simp [e, clsOf] at g
        · simp [e, clsOf] at g
        · exact g key (keysOp_mem (x := p) (by simp [e, Op.operands]) hp key (by simp [AV.keys]))
      simp only [aOp, e, hτ, o1, o2, hp, hx]
      rw [if_pos hl, e2 h2 hh]; rfl
  · rename_i x e
    split at hr
    · rename_i k off hx
      cases hr
      refine loc0 fun t2 h2 ag => ?_
      have o1 := ag.opd x (by simp [e, Op.operands])
      simp only [aOp, e, o1, hx]
    · rename_i cs hx
      cases hr
      refine loc0 fun t2 h2 ag => ?_
      have o1 := ag.opd x (by simp [e, Op.operands])
      simp only [aOp, e, o1, hx]
    · rename_i f fa fb hx
      cases hr
      refine loc0 fun t2 h2 ag => ?_
      have o1 := ag.opd x (by simp [e, Op.operands])
      simp only [aOp, e, o1, hx]
    · cases hr
  · rename_i op ty x y _ e
    split at hr
    case h_2 => cases hr
    rename_i u v hx hy
    obtain ⟨r', h1, rfl⟩ := map_some hr
    refine loc0 fun t2 h2 ag => ?_
    have o1 := ag.opd x (by simp [e, Op.operands])
    have o2 := ag.opd y (by simp [e, Op.operands])
    simp only [aOp, e, o1, o2, hx, hy, h1]; rfl
  · rename_i op _ x e
    split at hr
    case h_2 => cases hr
    rename_i u hx
    obtain ⟨r', h1, rfl⟩ := map_some hr
    refine loc0 fun t2 h2 ag => ?_
    have o1 := ag.opd x (by simp [e, Op.operands])
    simp only [aOp, e, o1, hx, h1]; rfl
  · rename_i src dst x e
    split at hr
    case h_2 => cases hr
    rename_i u hx
    split at hr
    · rename_i e' _ _ _ _ l hs hd
      split at hr
      case h_2 => cases hr
      rename_i he
      cases hr
      refine locNew rfl (by simp [e, clsOf]) (by simp [e]) fun t2 h2 ag hn => ?_
      have o1 := ag.opd x (by simp [e, Op.operands])
      simp only [aOp, e, o1, hx, hs, hd, he, hn]
    · rename_i u _ _ _ hno
      obtain ⟨r', h1, rfl⟩ := map_some hr
      refine loc0 fun t2 h2 ag => ?_
      have o1 := ag.opd x (by simp [e, Op.operands])
      have hh : ∀ k ∈ u.keys, lookK h2 k = lookK h k := fun k hk => by
        rcases ag.heap with g | g | g
        · simp [e, clsOf] at g
        · simp [e, clsOf] at g
        · exact g k (keysOp_mem (by simp [e, Op.operands]) hx k hk)
      simp only [aOp, e, o1, hx]
      rw [convA_agree hh, h1]; rfl
  · rename_i ty x e
    split at hr
    · cases hr
    · rename_i τ v hni hτ hx
      cases hr
      refine loc0 fun t2 h2 ag => ?_
      have o1 := ag.opd x (by simp [e, Op.operands])
      obtain ⟨d, sz, by_, z, m⟩ := τ
      simp only [aOp, e, o1, hx, hτ]
    · cases hr
  · rename_i f first cap e
    split at hr
    case h_2 => cases hr
    rename_i u v hx hy
    cases hr
    refine loc0 fun t2 h2 ag => ?_
    have o1 := opdL_agree (E := E) (t := t) (t2 := t2) (l := first.toList) fun x hx => ag.opd x (by simp [e, Op.operands] at hx ⊢; exact .inl hx)
    have o2 := opdL_agree (E := E) (t := t) (t2 := t2) (l := cap.toList) fun x hx => ag.opd x (by simp [e, Op.operands] at hx ⊢; exact .inr hx)
    simp only [aOp, e, o1, o2, hx, hy]
  · rename_i ty l cc e
    split at hr
    case h_2 => cases hr
    rename_i e' _ _ _ _ l' c' hτ hl hcv
    split at hr
    case h_2 => cases hr
    rename_i τ he
    split at hr
    case isFalse => cases hr
    rename_i hcnd
    cases hr
    refine locNew rfl (by simp [e, clsOf]) (by simp [e]) fun t2 h2 ag hn => ?_
    have o1 := ag.opd l (by simp [e, Op.operands])
    have o2 := ag.opd cc (by simp [e, Op.operands])
    simp only [aOp, e, o1, o2, hl, hcv, hτ, he]
    rw [if_pos hcnd, hn]
  · rename_i ty x lo hi mx e
    split at hr
    case h_2 => cases hr
    rename_i xv l hh m hx hl hhh hm
    obtain ⟨r', h1, rfl⟩ := map_some hr
    refine loc0 fun t2 h2 ag => ?_
    have o1 := ag.opd x (by simp [e, Op.operands])
    have oo : ∀ (q : Option Operand), (∀ y, q = some y → y ∈ o.op.operands.toList) → (q.map (opd E t2)) = q.map (opd E t) := by
      intro q hq
      cases q with
      | none => rfl
      | some y => simp [ag.opd y (hq y rfl)]
    have o2 := oo lo (fun y hy => by simp [e, Op.operands, hy])
    have o3 := oo hi (fun y hy => by simp [e, Op.operands, hy])
    have o4 := oo mx (fun y hy => by simp [e, Op.operands, hy])
    have hk : ∀ k ∈ xv.keys, lookK h2 k = lookK h k := fun k hk => by
      rcases ag.heap with g | g | g
      · simp [e, clsOf] at g
      · simp [e, clsOf] at g
      · exact g k (keysOp_mem (x := x) (by simp [e, Op.operands]) hx k hk)
    simp only [aOp, e, o1, o2, o3, o4, hx, hl, hhh, hm, sliceA_agree hk, h1]; rfl
  · rename_i ty x f e
    split at hr
    case h_2 => cases hr
    rename_i u hx
    obtain ⟨r', h1, rfl⟩ := map_some hr
    refine loc0 fun t2 h2 ag => ?_
    have o1 := ag.opd x (by simp [e, Op.operands])
    simp only [aOp, e, o1, hx, h1]; rfl
  · rename_i ty x f e
    split at hr
    case h_2 => cases hr
    rename_i u hx
    obtain ⟨r', h1, rfl⟩ := map_some hr
    refine loc0 fun t2 h2 ag => ?_
    have o1 := ag.opd x (by simp [e, Op.operands])
    simp only [aOp, e, o1, hx, h1]; rfl
  · rename_i ty x i e
    split at hr
    case h_2 => cases hr
    rename_i u v hx hi
    obtain ⟨r', h1, rfl⟩ := map_some hr
    refine loc0 fun t2 h2 ag => ?_
    have o1 := ag.opd x (by simp [e, Op.operands])
    have o2 := ag.opd i (by simp [e, Op.operands])
    have h2' : indexAddrA E ty u v h2 = indexAddrA E ty u v h := rfl
    simp only [aOp, e, o1, o2, hx, hi, h2', h1]; rfl
  · rename_i ty x i e
    split at hr
    case h_2 => cases hr
    rename_i u v hx hi
    obtain ⟨r', h1, rfl⟩ := map_some hr
    refine loc0 fun t2 h2 ag => ?_
    have o1 := ag.opd x (by simp [e, Op.operands])
    have o2 := ag.opd i (by simp [e, Op.operands])
    simp only [aOp, e, o1, o2, hx, hi, h1]; rfl
  · rename_i x i e
    split at hr
    case h_2 => cases hr
    rename_i vs hx
    obtain ⟨r', h1, rfl⟩ := map_some hr
    refine loc0 fun t2 h2 ag => ?_
    have o1 := ag.opd x (by simp [e, Op.operands])
    simp only [aOp, e, o1, hx, h1]; rfl
  · rename_i cl e
    have hags : ∀ {t2 h2}, Agree E lvl t h t2 h2 o → opdL E t2 cl.args.toList = opdL E t cl.args.toList := fun ag => opdL_agree fun x hx => ag.opd x (by simp [e, Op.operands, Call.operands] at hx ⊢; exact .inr hx)
    split at hr
    · rename_i f args hcal hargs
      split at hr
      case h_2 => cases hr
      rename_i g first cap hf
      unfold callA at hr
      split at hr
      · rename_i hx
        obtain ⟨v, h1, rfl⟩ := map_some hr
        refine loc0 fun t2 h2 ag => ?_
        have o1 := ag.opd f (by simp [e, Op.operands, Call.operands, hcal])
        simp only [aOp, e, hcal, hags ag, hargs, o1, hf]
        unfold callA
        rw [if_pos hx, h1]; rfl
      · rename_i hx
        cases hr
        refine ⟨[], by simp, rfl, fun t2 h2 ag => ?_⟩
        have o1 := ag.opd f (by simp [e, Op.operands, Call.operands, hcal])
        simp only [aOp, e, hcal, hags ag, hargs, o1, hf]
        unfold callA
        rw [if_neg hx]; rfl
    · rename_i b args hcal hargs
      have hmemk : ∀ (i : Nat) v, args[i]? = some v → ∀ k ∈ v.keys, k ∈ keysOp E t o := by
        have gen : ∀ (l : List Operand) (vs : List AV), opdL E t l = some vs → ∀ (i : Nat) v, vs[i]? = some v → ∃ x ∈ l, opd E t x = some v := by
          intro l
          induction l with
          | nil => intro vs h; simp [opdL] at h; subst h; simp
          | cons x l ih =>
            intro vs h i v hi
            simp only [opdL] at h
            split at h
            · rename_i y ys e1 e2
              cases h
              cases i with
              | zero => simp at hi; subst hi; exact ⟨x, by simp, e1⟩
              | succ i => obtain ⟨z, z1, z2⟩ := ih ys e2 i v (by simpa using hi); exact ⟨z, by simp [z1], z2⟩
            · cases h
        intro i v hi
        obtain ⟨x, x1, x2⟩ := gen _ _ hargs i v hi
        exact keysOp_mem (by simp [e, Op.operands, Call.operands] at x1 ⊢; exact .inr x1) x2
      have same : ∀ v, builtinA E lvl (o.dst.getD 0) h b cl.argTypes.toList args = some (.val v h) → (∀ h2, builtinA E lvl (o.dst.getD 0) h2 b cl.argTypes.toList args = some (.val v h2)) → r = .val v h → Loc E lvl t h o r := by
        intro v _ hf hrr
        subst hrr
        refine loc0 fun t2 h2 ag => ?_
        simp only [aOp, e, hcal, hags ag, hargs, hf h2]
      have hr1 := hr
      unfold builtinA at hr
      split at hr
      · rename_i t1 _ x _ ets
        split at hr <;> first | (cases hr; rename_i ht; exact same _ hr1 (fun h2 => by unfold builtinA; simp only [ets, ht]) rfl) | (cases hr; done)
      · rename_i t1 _ x _ ets
        split at hr <;> first | (cases hr; rename_i ht; exact same _ hr1 (fun h2 => by unfold builtinA; simp only [ets, ht]) rfl) | (cases hr; done)
      · rename_i t1 t2' _ s x tl ets
        have hcls : clsOf o.op = 3 := by rw [e]; cases cl; simp_all [clsOf]
        have app : appendA E lvl (o.dst.getD 0) h t1 s x = some r → (∀ h2, builtinA E lvl (o.dst.getD 0) h2 .append cl.argTypes.toList (s :: x :: tl) = appendA E lvl (o.dst.getD 0) h2 t1 s x) → Loc E lvl t h o r := by
          intro ha hb
          obtain ⟨v, us, rfl, u2, u3⟩ := appendA_loc ha
          refine ⟨us, fun p hp => ?_, rfl, fun t2 h2 ag => ?_⟩
          · rcases u2 p hp with g | g
            · exact .inl ⟨hmemk 0 s rfl _ g.1, hcls, g.2⟩
            · exact .inr ⟨g, by omega, by simp [e]⟩
          · have hg := ag.gen.resolve_left (by omega)
            have hh : ∀ k ∈ keysOp E t o, lookK h2 k = lookK h k := by
              rcases ag.heap with g | g | g
              · omega
              · omega
              · exact g
            simp only [aOp, e, hcal, hags ag, hargs, hb h2]
            exact u3 h2 (fun k hk => by
              rcases List.mem_append.1 hk with hk | hk
              · exact hh k (hmemk 0 s rfl k hk)
              · exact hh k (hmemk 1 x rfl k hk)) hg
        split at hr
        · rename_i ht2; exact app hr (fun h2 => by unfold builtinA; simp only [ets, ht2])
        · rename_i ht2; exact app hr (fun h2 => by unfold builtinA; simp only [ets, ht2])
        · cases hr
      · rename_i t1 _ d s _ ets
        have hcls : clsOf o.op = 3 := by rw [e]; cases cl; simp_all [clsOf]
        obtain ⟨v, us, rfl, u2, u3⟩ := copyA_loc hr
        refine ⟨us, fun p hp => .inl ⟨hmemk 0 d rfl _ (u2 p hp).1, hcls, (u2 p hp).2⟩, rfl, fun t2 h2 ag => ?_⟩
        have hh : ∀ k ∈ keysOp E t o, lookK h2 k = lookK h k := by
          rcases ag.heap with g | g | g
          · omega
          · omega
          · exact g
        simp only [aOp, e, hcal, hags ag, hargs]
        unfold builtinA
        simp only [ets]
        exact u3 h2 (fun k hk => by
          rcases List.mem_append.1 hk with hk | hk
          · exact hh k (hmemk 0 d rfl k hk)
          · exact hh k (hmemk 1 s rfl k hk))
      · rename_i k a k' b
        split at hr
        case isFalse => cases hr
        rename_i hk
        cases hr
        exact same _ hr1 (fun h2 => by unfold builtinA; simp only; rw [if_pos hk]) rfl
      · rename_i k a k' b
        split at hr
        case isFalse => cases hr
        rename_i hk
        cases hr
        exact same _ hr1 (fun h2 => by unfold builtinA; simp only; rw [if_pos hk]) rfl
      · cases hr
    · cases hr
  · rename_i x _ u e
    split at hr
    · cases hr
    · rename_i τ ty v hni hτ hx
      split at hr
      case isFalse => cases hr
      rename_i htu
      cases hr
      refine loc0 fun t2 h2 ag => ?_
      have ho := ag.opd x (by simp [e, Op.operands])
      subst htu
      obtain ⟨d, b1, b2, b3, b4⟩ := τ
      simp only [aOp, e, ho, hx, hτ]
      cases d with
      | iface _ => exact absurd rfl (hni _ _ _ _ _)
      | _ => simp
    · cases hr
  · rename_i x e
    split at hr
    case h_2 => cases hr
    rename_i ty v hx
    cases hr
    refine ⟨[], by simp, rfl, fun t2 h2 ag => ?_⟩
    have ho := ag.opd x (by simp [e, Op.operands])
    simp only [aOp, e, ho, hx]; rfl
  · cases hr

end Ab
