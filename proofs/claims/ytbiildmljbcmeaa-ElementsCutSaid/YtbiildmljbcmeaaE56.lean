/- Own work, no conditions. -/
import Derived.Test.YtbiildmljbcmeaaE48
import Derived.Test.YtbiildmljbcmeaaE12
import Derived.Test.YtbiildmljbcmeaaE23
section
/- Reading elements, in plain Lean. No conditions. -/
open Ab Go TabE Sp E40
set_option linter.unusedSimpArgs false
set_option linter.unusedVariables false
namespace Sp
inductive Rr where
  | ok (c : Cr) (n : Nat) (m : Int)
  | bad (a : Int) (e : Int)
mutual
def rd : Nat → List Int → Nat → Nat → Int → Int → Rr
  | 0, _, _, _, _, _ => .bad 0 7
  | f + 1, b, a, e, d, m =>
    if (gt ((b.take e).drop a)).2.2 = 7 then .bad e 7
    else if (gt ((b.take e).drop a)).2.2 ≠ 0 then .bad a (gt ((b.take e).drop a)).2.2
    else if 16 < d then .bad a 12
    else if m = 8192 then .bad a 3
    else if (gl ((b.take e).drop (a + (gt ((b.take e).drop a)).2.1.toNat))).2.2 = 7 then .bad e 7
    else if (gl ((b.take e).drop (a + (gt ((b.take e).drop a)).2.1.toNat))).2.2 ≠ 0 then .bad ((a + (gt ((b.take e).drop a)).2.1.toNat : Nat) : Int) (gl ((b.take e).drop (a + (gt ((b.take e).drop a)).2.1.toNat))).2.2
    else if e < a + (gt ((b.take e).drop a)).2.1.toNat + (gl ((b.take e).drop (a + (gt ((b.take e).drop a)).2.1.toNat))).2.1.toNat + (gl ((b.take e).drop (a + (gt ((b.take e).drop a)).2.1.toNat))).1.toNat then .bad e 7
    else
      let p := a + (gt ((b.take e).drop a)).2.1.toNat + (gl ((b.take e).drop (a + (gt ((b.take e).drop a)).2.1.toNat))).2.1.toNat
      let q := p + (gl ((b.take e).drop (a + (gt ((b.take e).drop a)).2.1.toNat))).1.toNat
      if (gt ((b.take e).drop a)).1.2.1 = false then .ok (.mk (gt ((b.take e).drop a)).1.1 false (gt ((b.take e).drop a)).1.2.2 ((b.take q).drop p) []) q (m + 1)
      else match rds f b p q (d + 1) (m + 1) with
        | .inl (s, m') => .ok (.mk (gt ((b.take e).drop a)).1.1 true (gt ((b.take e).drop a)).1.2.2 [] s) q m'
        | .inr (x, y) => .bad x y
def rds : Nat → List Int → Nat → Nat → Int → Int → (List Cr × Int) ⊕ (Int × Int)
  | 0, _, _, _, _, _ => .inr (0, 7)
  | f + 1, b, a, e, d, m => if e ≤ a then .inl ([], m) else
    match rd f b a e d m with
    | .bad x y => .inr (x, y)
    | .ok c a' m' => match rds f b a' e d m' with
      | .inl (s, m'') => .inl (c :: s, m'')
      | .inr r => .inr r
end
theorem rd_eq {f : Nat} {b : List Int} {a e : Nat} {d m : Int} {c : Int} {k : Bool} {n : Int} {tl : Nat} {te : Int} {L : Int} {ll : Nat} {le : Int} (h1 : gt ((b.take e).drop a) = ((c, k, n), (tl : Int), te)) (h2 : gl ((b.take e).drop (a + tl)) = (L, (ll : Int), le)) :
    rd (f + 1) b a e d m = if te = 7 then .bad e 7 else if te ≠ 0 then .bad a te else if 16 < d then .bad a 12 else if m = 8192 then .bad a 3 else if le = 7 then .bad e 7 else if le ≠ 0 then .bad ((a + tl : Nat) : Int) le else if e < a + tl + ll + L.toNat then .bad e 7
      else if k = false then .ok (.mk c false n ((b.take (a + tl + ll + L.toNat)).drop (a + tl + ll)) []) (a + tl + ll + L.toNat) (m + 1)
      else match rds f b (a + tl + ll) (a + tl + ll + L.toNat) (d + 1) (m + 1) with
        | .inl (s, m') => .ok (.mk c true n [] s) (a + tl + ll + L.toNat) m'
        | .inr (x, y) => .bad x y := by
  rw [rd]
  simp only [h1, Int.toNat_natCast, h2]
theorem rd_tag {f : Nat} {b : List Int} {a e : Nat} {d m : Int} (h : (gt ((b.take e).drop a)).2.2 ≠ 0) : rd (f + 1) b a e d m = if (gt ((b.take e).drop a)).2.2 = 7 then .bad e 7 else .bad a (gt ((b.take e).drop a)).2.2 := by
  by_cases q : (gt ((b.take e).drop a)).2.2 = 7
  · rw [rd, if_pos q, if_pos q]
  · rw [rd, if_neg q, if_pos h, if_neg q]
mutual
def okc : Cr → Prop
  | .mk c _ n b s => 0 ≤ c ∧ 0 ≤ n ∧ isB b ∧ okcs s
def okcs : List Cr → Prop
  | [] => True
  | x :: r => okc x ∧ okcs r
end
theorem tkdr {α : Type} (b : List α) {p q e : Nat} (h1 : p ≤ q) (h2 : q ≤ e) : (b.take q).drop p = ((b.take e).drop p).take (q - p) := by
  rw [List.drop_take, List.drop_take, List.take_take]
  congr 1; omega
theorem xs_len {α : Type} (b : List α) {a e : Nat} (h : e ≤ b.length) : ((b.take e).drop a).length = e - a := by rw [List.length_drop, List.length_take]; omega
theorem enc_len2 (c : Cr) : 2 ≤ (enc c).length := by
  cases c with
  | mk c k n b s =>
    rw [enc, List.length_append, List.length_append]
    have := (tagO_len c k n).1
    have := (lenO_len ((b ++ encs s).length : Int)).1
    omega
mutual
theorem rd_put : ∀ (c : Cr) (f : Nat) (b : List Int) (a e : Nat) (d m : Int) (r : List Int), okc c → vld c → (b.take e).drop a = enc c ++ r → e ≤ b.length → a ≤ e → d + dep c ≤ 17 → m + cnt c ≤ 8192 → 0 ≤ m → (enc c).length ≤ 16777215 → e - a + 1 ≤ f → rd f b a e d m = .ok c (a + (enc c).length) (m + cnt c)
  | .mk c k n x s, f, b, a, e, d, m, r, ho, hv, hx, he, ha, hd, hm, m0, hl, hf => by
    obtain ⟨f, rfl⟩ : ∃ j, f = j + 1 := ⟨f - 1, by omega⟩
    unfold okc at ho
    unfold vld at hv
    unfold dep at hd
    unfold cnt at hm ⊢
    obtain ⟨o1, o2, o3, o4⟩ := ho
    obtain ⟨v1, v2, v3, v4⟩ := hv
    have xl := xs_len b (a := a) he
    rw [hx] at xl
    rw [enc] at hx hl xl ⊢
    have d0 := deps_pos s
    have c0 := cnts_pos s
    obtain ⟨co, hco⟩ : ∃ co, x ++ encs s = co := ⟨_, rfl⟩
    rw [hco] at hx hl xl ⊢
    simp only [List.length_append] at hl xl ⊢
    have g1 : gt ((b.take e).drop a) = ((c, k, n), ((TG.tagO c k n).length : Int), 0) := by
      rw [hx, List.append_assoc]; exact gt_put c k n _ v1 o1 o2
    have x2 : (b.take e).drop (a + (TG.tagO c k n).length) = lenO (co.length : Int) ++ (co ++ r) := by
      rw [← List.drop_drop, hx, List.append_assoc, List.drop_left', List.append_assoc]; rfl
    have g2 : gl ((b.take e).drop (a + (TG.tagO c k n).length)) = ((co.length : Int), ((lenO (co.length : Int)).length : Int), 0) := by
      rw [x2]; exact gl_put _ _ (by omega) (by omega)
    have x3 : (b.take e).drop (a + (TG.tagO c k n).length + (lenO (co.length : Int)).length) = co ++ r := by
      rw [← List.drop_drop, x2, List.drop_left']; rfl
    have x4 : (b.take (a + (TG.tagO c k n).length + (lenO (co.length : Int)).length + co.length)).drop (a + (TG.tagO c k n).length + (lenO (co.length : Int)).length) = co := by
      rw [tkdr b (e := e) (by omega) (by omega), x3, Nat.add_sub_cancel_left, List.take_left']; rfl
    have tl1 := (tagO_len c k n).1
    have ll1 := (lenO_len (co.length : Int)).1
    rw [rd_eq g1 g2, if_neg (by omega), if_neg (by simp), if_neg (by omega), if_neg (by omega), if_neg (by omega), if_neg (by simp), Int.toNat_natCast, if_neg (by omega)]
    have q1 : a + ((TG.tagO c k n).length + ((lenO (co.length : Int)).length + co.length)) = a + (TG.tagO c k n).length + (lenO (co.length : Int)).length + co.length := by omega
    cases k with
    | false =>
      obtain rfl := v3 rfl
      have : co = x := by rw [← hco]; simp [encs]
      rw [if_pos rfl, x4, q1, this]
      simp [cnts]
    | true =>
      obtain rfl := v2 rfl
      have : co = encs s := by rw [← hco]; simp
      have R := rds_put s f b (a + (TG.tagO c true n).length + (lenO (co.length : Int)).length) (a + (TG.tagO c true n).length + (lenO (co.length : Int)).length + co.length) (d + 1) (m + 1) o4 v4 (by rw [x4, this]) (by omega) (by omega) (by omega) (by omega) (by omega) (by rw [← this]; omega) (by omega)
      rw [if_neg (by simp), R, q1, Int.add_assoc]
theorem rds_put : ∀ (s : List Cr) (f : Nat) (b : List Int) (a e : Nat) (d m : Int), okcs s → vlds s → (b.take e).drop a = encs s → e ≤ b.length → a ≤ e → d + deps s ≤ 17 → m + cnts s ≤ 8192 → 0 ≤ m → (encs s).length ≤ 16777215 → e - a + 2 ≤ f → rds f b a e d m = .inl (s, m + cnts s)
  | [], f, b, a, e, d, m, ho, hv, hx, he, ha, hd, hm, m0, hl, hf => by
    obtain ⟨f, rfl⟩ : ∃ j, f = j + 1 := ⟨f - 1, by omega⟩
    have xl := xs_len b (a := a) he
    rw [hx] at xl
    simp [encs] at xl
    rw [rds, if_pos (by omega)]
    simp [cnts]
  | x :: s, f, b, a, e, d, m, ho, hv, hx, he, ha, hd, hm, m0, hl, hf => by
    obtain ⟨f, rfl⟩ : ∃ j, f = j + 1 := ⟨f - 1, by omega⟩
    unfold okcs at ho
    unfold vlds at hv
    unfold deps at hd
    unfold cnts at hm ⊢
    have xl := xs_len b (a := a) he
    rw [hx] at xl
    rw [encs] at hx xl hl
    rw [List.length_append] at xl hl
    have x2 := enc_len2 x
    have d0 := deps_pos s
    have c0 := cnts_pos s
    have c1 := cnt_pos x
    have R := rd_put x f b a e d m (encs s) ho.1 hv.1 hx he ha (by omega) (by omega) m0 (by omega) (by omega)
    have R2 := rds_put s f b (a + (enc x).length) e d (m + cnt x) ho.2 hv.2 (by rw [← List.drop_drop, hx, List.drop_left']; rfl) he (by omega) (by omega) (by omega) (by omega) (by omega) (by omega)
    rw [rds, if_neg (by omega), R]
    simp only [R2, Int.add_assoc]
end
structure Rok (b : List Int) (a e : Nat) (d m : Int) (c : Cr) (a' : Nat) (m' : Int) : Prop where
  o : okc c
  v : vld c
  x : (b.take a').drop a = enc c
  l : a < a'
  r : a' ≤ e
  n : m' = m + cnt c
  k : m' ≤ 8192
  d : d + dep c ≤ 17
structure Roks (b : List Int) (a e : Nat) (d m : Int) (s : List Cr) (m' : Int) : Prop where
  o : okcs s
  v : vlds s
  x : (b.take e).drop a = encs s
  n : m' = m + cnts s
  k : m' ≤ 8192
  d : d + deps s ≤ 17
theorem drop_at {b : List Int} {a p e : Nat} (h1 : a ≤ p) (h2 : p ≤ e) : (b.take e).drop a = (b.take p).drop a ++ (b.take e).drop p := by
  have : (b.take e).drop a = ((b.take e).drop a).take (p - a) ++ ((b.take e).drop a).drop (p - a) := (List.take_append_drop _ _).symm
  rw [this, ← tkdr b h1 h2, List.drop_drop]
  congr 2; omega
theorem back : ∀ f : Nat, (∀ (b : List Int) (a e : Nat) (d m : Int) (c : Cr) (a' : Nat) (m' : Int), isB b → e ≤ b.length → a ≤ e → m ≤ 8192 → rd f b a e d m = .ok c a' m' → Rok b a e d m c a' m') ∧
    (∀ (b : List Int) (a e : Nat) (d m : Int) (s : List Cr) (m' : Int), isB b → e ≤ b.length → a ≤ e → m ≤ 8192 → d ≤ 17 → rds f b a e d m = .inl (s, m') → Roks b a e d m s m') := by
  intro f
  induction f with
  | zero => exact ⟨fun b a e d m c a' m' _ _ _ _ h => by simp [rd] at h, fun b a e d m s m' _ _ _ _ _ h => by simp [rds] at h⟩
  | succ f ih =>
    obtain ⟨ih1, ih2⟩ := ih
    refine ⟨fun b a e d m c a' m' hb he ha hm h => ?_, fun b a e d m s m' hb he ha hm hd h => ?_⟩
    · have xb : isB ((b.take e).drop a) := fun y hy => hb y (List.mem_of_mem_take (List.mem_of_mem_drop hy))
      obtain ⟨te, hte⟩ : ∃ te, (gt ((b.take e).drop a)).2.2 = te := ⟨_, rfl⟩
      by_cases te0 : te = 0
      case neg =>
        rw [rd_tag (by rw [hte]; exact te0)] at h
        split at h <;> cases h
      subst te0
      obtain ⟨⟨⟨tc, tk, tn⟩, ts, te'⟩, hg⟩ : ∃ g, gt ((b.take e).drop a) = g := ⟨_, rfl⟩
      have hz : te' = 0 := by rw [hg] at hte; exact hte
      subst hz
      obtain ⟨r, x1, rfl, t1, t2, t3⟩ := gt_back _ xb tc tk tn ts hg
      have xl := xs_len b (a := a) he
      rw [x1, List.length_append] at xl
      have tl1 := (tagO_len tc tk tn).1
      have x2 : (b.take e).drop (a + (TG.tagO tc tk tn).length) = r := by rw [← List.drop_drop, x1, List.drop_left']; rfl
      have rb : isB r := fun y hy => xb y (by rw [x1]; simp [hy])
      obtain ⟨⟨L, lS, le⟩, hl⟩ : ∃ g, gl ((b.take e).drop (a + (TG.tagO tc tk tn).length)) = g := ⟨_, rfl⟩
      have hl2 := hl
      rw [x2] at hl2
      by_cases le0 : le = 0
      case neg =>
        have := gl_n r (by rw [hl2]; exact le0)
        rw [hl2] at this
        simp only [Prod.mk.injEq] at this
        obtain ⟨rfl, rfl, _⟩ := this
        rw [rd_eq (ll := 0) hg hl] at h
        rw [if_neg (by omega), if_neg (by simp)] at h
        split at h
        · cases h
        split at h
        · cases h
        split at h
        · cases h
        first | cases h | (rw [if_pos le0] at h; cases h)
      subst le0
      obtain ⟨r2, x3, rfl, l1, l2⟩ := gl_back r rb L lS hl2
      rw [rd_eq hg hl] at h
      rw [if_neg (by omega), if_neg (by simp)] at h
      by_cases hd : 16 < d
      · rw [if_pos hd] at h; cases h
      rw [if_neg hd] at h
      by_cases hm2 : m = 8192
      · rw [if_pos hm2] at h; cases h
      rw [if_neg hm2, if_neg (by omega), if_neg (by simp)] at h
      obtain ⟨n, rfl⟩ := Int.eq_ofNat_of_zero_le l1
      rw [Int.toNat_natCast] at h
      generalize hp : a + (TG.tagO tc tk tn).length + (lenO (n : Int)).length = p at h
      by_cases hq : e < p + n
      · rw [if_pos hq] at h; cases h
      rw [if_neg hq] at h
      rw [x3, List.length_append] at xl
      have ll1 := (lenO_len (n : Int)).1
      have x4 : (b.take p).drop a = TG.tagO tc tk tn ++ lenO (n : Int) := by
        rw [tkdr b (e := e) (by omega) (by omega), x1, x3, ← List.append_assoc, List.take_left']
        rw [List.length_append]; omega
      have cl : ((b.take (p + n)).drop p).length = n := by rw [xs_len b (by omega)]; omega
      have cb : isB ((b.take (p + n)).drop p) := fun y hy => hb y (List.mem_of_mem_take (List.mem_of_mem_drop hy))
      have key : (b.take (p + n)).drop a = TG.tagO tc tk tn ++ (lenO (((b.take (p + n)).drop p).length : Int) ++ (b.take (p + n)).drop p) := by
        rw [drop_at (p := p) (by omega) (by omega), x4, cl, List.append_assoc]
      cases tk with
      | false =>
        rw [if_pos rfl] at h
        cases h
        refine ⟨?_, ?_, ?_, by omega, by omega, by simp [cnt, cnts], by omega, by simp [dep, deps]; omega⟩
        · unfold okc; exact ⟨t2, t3, cb, trivial⟩
        · unfold vld; exact ⟨t1, fun q => absurd q (by decide), fun _ => rfl, trivial⟩
        · rw [enc, encs, List.append_nil]; exact key
      | true =>
        rw [if_neg (by simp)] at h
        cases hr : rds f b p (p + n) (d + 1) (m + 1) with
        | inr y => rw [hr] at h; obtain ⟨y1, y2⟩ := y; cases h
        | inl y =>
          obtain ⟨s, mm⟩ := y
          rw [hr] at h
          cases h
          have R := ih2 b p (p + n) (d + 1) (m + 1) s _ hb (by omega) (by omega) (by omega) (by omega) hr
          refine ⟨?_, ?_, ?_, by omega, by omega, by rw [R.n, cnt]; omega, R.k, ?_⟩
          · unfold okc; exact ⟨t2, t3, isB_nil, R.o⟩
          · unfold vld; exact ⟨t1, fun _ => rfl, fun q => absurd q (by decide), R.v⟩
          · rw [enc, List.nil_append, ← R.x]; exact key
          · have := R.d; unfold dep; omega
    · rw [rds] at h
      by_cases q : e ≤ a
      · rw [if_pos q] at h
        cases h
        obtain rfl : a = e := by omega
        exact ⟨trivial, trivial, by rw [encs, List.drop_eq_nil_of_le]; rw [List.length_take]; omega, by simp [cnts], hm, by simp [deps]; omega⟩
      rw [if_neg q] at h
      cases hr : rd f b a e d m with
      | bad x y => rw [hr] at h; cases h
      | ok c a' mm =>
        rw [hr] at h
        simp only at h
        have R := ih1 b a e d m c a' mm hb he ha hm hr
        cases hr2 : rds f b a' e d mm with
        | inr y => rw [hr2] at h; cases h
        | inl y =>
          obtain ⟨s2, m2⟩ := y
          rw [hr2] at h
          cases h
          have R2 := ih2 b a' e d mm s2 m' hb he R.r R.k hd hr2
          refine ⟨⟨R.o, R2.o⟩, ⟨R.v, R2.v⟩, ?_, by rw [R2.n, R.n, cnts]; omega, R2.k, ?_⟩
          · rw [drop_at (p := a') (by have := R.l; omega) R.r, R.x, R2.x, encs]
          · have a1 := R.d
            have a2 := R2.d
            unfold deps; omega
theorem rd_back (f : Nat) (b : List Int) (a e : Nat) (d m : Int) (c : Cr) (a' : Nat) (m' : Int) (hb : isB b) (he : e ≤ b.length) (ha : a ≤ e) (hm : m ≤ 8192) (h : rd f b a e d m = .ok c a' m') : Rok b a e d m c a' m' := (back f).1 b a e d m c a' m' hb he ha hm h
theorem bad_ne : ∀ f : Nat, (∀ (b : List Int) (a e : Nat) (d m : Int) (x y : Int), rd f b a e d m = .bad x y → y ≠ 0) ∧ (∀ (b : List Int) (a e : Nat) (d m : Int) (x y : Int), rds f b a e d m = .inr (x, y) → y ≠ 0) := by
  intro f
  induction f with
  | zero => exact ⟨fun b a e d m x y h => by rw [rd] at h; cases h; decide, fun b a e d m x y h => by rw [rds] at h; cases h; decide⟩
  | succ f ih =>
    refine ⟨fun b a e d m x y h => ?_, fun b a e d m x y h => ?_⟩
    · rw [rd] at h
      split at h
      · cases h; decide
      split at h
      · cases h; assumption
      split at h
      · cases h; decide
      split at h
      · cases h; decide
      split at h
      · cases h; decide
      split at h
      · cases h; assumption
      split at h
      · cases h; decide
      simp only at h
      split at h
      · cases h
      split at h
      · cases h
      · rename_i hq; cases h; exact ih.2 _ _ _ _ _ _ _ hq
    · rw [rds] at h
      split at h
      · cases h
      split at h
      · rename_i hq; cases h; exact ih.1 _ _ _ _ _ _ _ hq
      · split at h
        · cases h
        · rename_i hq; cases h; exact ih.2 _ _ _ _ _ _ _ hq
theorem rd_cut (c : Cr) (f : Nat) (b : List Int) (e : Nat) (d m : Int) (ho : okc c) (hv : vld c) (hx : b.take e = (enc c).take e) (he : e ≤ b.length) (hl : e < (enc c).length) (h16 : (enc c).length ≤ 16777215) (hd : d ≤ 16) (hm : m ≠ 8192) : rd (f + 1) b 0 e d m = .bad e 7 := by
  cases c with
  | mk c k n x s =>
    unfold okc at ho
    unfold vld at hv
    rw [enc] at hx hl h16
    obtain ⟨co, hco⟩ : ∃ co, x ++ encs s = co := ⟨_, rfl⟩
    rw [hco] at hx hl h16
    by_cases h1 : e < (TG.tagO c k n).length
    · have x0 : (b.take e).drop 0 = (TG.tagO c k n).take e := by rw [List.drop_zero, hx, List.take_append_of_le_length (by omega)]
      have g := gt_short c k n hv.1 ho.1 ho.2.1 e h1
      rw [rd_tag (by rw [x0, g]; simp), x0, g]
      rfl
    have x0 : (b.take e).drop 0 = TG.tagO c k n ++ (lenO (co.length : Int) ++ co).take (e - (TG.tagO c k n).length) := by
      rw [List.drop_zero, hx, List.take_append, List.take_of_length_le (by omega)]
    have g1 : gt ((b.take e).drop 0) = ((c, k, n), ((TG.tagO c k n).length : Int), 0) := by rw [x0]; exact gt_put c k n _ hv.1 ho.1 ho.2.1
    have x1 : (b.take e).drop (0 + (TG.tagO c k n).length) = (lenO (co.length : Int) ++ co).take (e - (TG.tagO c k n).length) := by
      rw [← List.drop_drop, x0, List.drop_left']; rfl
    simp only [List.length_append] at hl h16
    by_cases h2 : e - (TG.tagO c k n).length < (lenO (co.length : Int)).length
    · have g2 : gl ((b.take e).drop (0 + (TG.tagO c k n).length)) = (0, ((0 : Nat) : Int), 7) := by
        rw [x1, List.take_append_of_le_length (by omega)]
        exact gl_short _ (by omega) (by omega) _ h2
      rw [rd_eq g1 g2, if_neg (by omega), if_neg (by simp), if_neg (by omega), if_neg hm, if_pos rfl]
    · have g2 : gl ((b.take e).drop (0 + (TG.tagO c k n).length)) = ((co.length : Int), ((lenO (co.length : Int)).length : Int), 0) := by
        rw [x1, List.take_append, List.take_of_length_le (by omega)]
        exact gl_put _ _ (by omega) (by omega)
      rw [rd_eq g1 g2, if_neg (by omega), if_neg (by simp), if_neg (by omega), if_neg hm, if_neg (by omega), if_neg (by simp), Int.toNat_natCast, if_pos (by omega)]
mutual
def dec1 : Cr → El
  | .mk c k n b s => .mk c k n k b (some b.length) s.isEmpty (decs1 s) (some s.length)
def decs1 : List Cr → List El
  | [] => []
  | x :: r => dec1 x :: decs1 r
end
mutual
def dec2 : Cr → El
  | .mk c k n b s => .mk c k n b.isEmpty b (if b.isEmpty then some 0 else none) s.isEmpty (decs2 s) (if s.isEmpty then some 0 else none)
def decs2 : List Cr → List El
  | [] => []
  | x :: r => dec2 x :: decs2 r
end
mutual
theorem dec1_core : ∀ c : Cr, (dec1 c).core = c
  | .mk c k n b s => by rw [dec1, El.core, decs1_core s]
theorem decs1_core : ∀ s : List Cr, El.cores (decs1 s) = s
  | [] => rfl
  | x :: r => by rw [decs1, El.cores, dec1_core x, decs1_core r]
end
mutual
theorem dec2_core : ∀ c : Cr, (dec2 c).core = c
  | .mk c k n b s => by rw [dec2, El.core, decs2_core s]
theorem decs2_core : ∀ s : List Cr, El.cores (decs2 s) = s
  | [] => rfl
  | x :: r => by rw [decs2, El.cores, dec2_core x, decs2_core r]
end
theorem decs1_len : ∀ s : List Cr, (decs1 s).length = s.length
  | [] => rfl
  | x :: r => by rw [decs1, List.length_cons, decs1_len r]; rfl
end Sp

end
section
/- The two readers of lengths, at the evaluator. No conditions. -/
open Ab Go TabE Sp
set_option linter.unusedSimpArgs false
set_option linter.unusedVariables false
namespace E50
theorem lget (f : Bool) (c : Option Nat) (xs : List Int) (hb : isB xs) : Con E 10 96 [.sl f (bs xs) c] (.tup [.int .i64 (gl xs).1, .int .i64 (gl xs).2.1, .int .i64 (gl xs).2.2]) := by
  have use : ∀ v : Int × Int × Int, gl xs = v → Con E 10 96 [.sl f (bs xs) c] (.tup [.int .i64 v.1, .int .i64 v.2.1, .int .i64 v.2.2]) → Con E 10 96 [.sl f (bs xs) c] (.tup [.int .i64 (gl xs).1, .int .i64 (gl xs).2.1, .int .i64 (gl xs).2.2]) := fun v e h => by rw [e]; exact h
  match xs, hb with
  | [], _ => exact P7.get_A f c
  | x :: r, hb =>
    have hx := hb x (by simp)
    by_cases a : x ≤ 127
    · exact use (x, 1, 0) (by rw [gl_cons, if_pos a]) (P7.get_B f c x r hx.1 a)
    by_cases b : x = 128
    · subst b; exact use (0, 0, 10) (by simp [gl_cons]) (P7.get_C0 f c r)
    by_cases b2 : 131 < x
    · exact use (0, 0, 10) (by simp [gl_cons, a, b2]) (P7.get_C1 f c x r (by omega) (by omega))
    by_cases c1 : x = 129
    · subst c1
      match r, hb with
      | [], _ => exact P7.get_D1 f c
      | y :: r, hb =>
        have hy := hb y (by simp)
        by_cases d : y ≤ 127
        · by_cases y0 : y = 0
          · subst y0; exact use (0, 0, 10) (by simp [gl_cons]) (P8.get_Z1 f c r)
          · exact use (0, 0, 10) (by simp [gl_cons, d]) (P8.get_F1 f c y r (by omega) d)
        · exact use (y, 2, 0) (by simp [gl_cons, d]) (P8.get_E1 f c y r (by omega) hy.2)
    by_cases c2 : x = 130
    · subst c2
      match r, hb with
      | [], _ => exact P7.get_D2 f c
      | [y], _ => exact P7.get_D2a f c y
      | y :: z :: r, hb =>
        have hy := hb y (by simp)
        have hz := hb z (by simp)
        by_cases y0 : y = 0
        · subst y0; exact use (0, 0, 10) (by simp [gl_cons]) (P8.get_Z2 f c z r hz.1 hz.2)
        · exact use (256 * y + z, 3, 0) (by simp [gl_cons, y0]) (P8.get_E2 f c y z r (by omega) hy.2 hz.1 hz.2)
    obtain rfl : x = 131 := by omega
    match r, hb with
    | [], _ => exact P7.get_D3 f c
    | [y], _ => exact P7.get_D3a f c y
    | [y, z], _ => exact P7.get_D3b f c y z
    | y :: z :: u :: r, hb =>
      have hy := hb y (by simp)
      have hz := hb z (by simp)
      have hu := hb u (by simp)
      by_cases y0 : y = 0
      · subst y0; exact use (0, 0, 10) (by simp [gl_cons]) (P9.get_Z3 f c z u r hz.1 hz.2 hu.1 hu.2)
      · exact use (256 * (256 * y + z) + u, 4, 0) (by simp [gl_cons, y0]) (P9.get_E3 f c y z u r (by omega) hy.2 hz.1 hz.2 hu.1 hu.2)
theorem rget (f : Bool) (c : Option Nat) (xs : List Int) (hb : isB xs) : Con E 20 89 [.sl f (bs xs) c] (.tup [.int .i64 (gl xs).1, .int .i64 (gl xs).2.1, .int .i64 (gl xs).2.2]) := by
  have use : ∀ v : Int × Int × Int, gl xs = v → Con E 20 89 [.sl f (bs xs) c] (.tup [.int .i64 v.1, .int .i64 v.2.1, .int .i64 v.2.2]) → Con E 20 89 [.sl f (bs xs) c] (.tup [.int .i64 (gl xs).1, .int .i64 (gl xs).2.1, .int .i64 (gl xs).2.2]) := fun v e h => by rw [e]; exact h
  match xs, hb with
  | [], _ => exact P7.rget_A f c
  | x :: r, hb =>
    have hx := hb x (by simp)
    by_cases a : x ≤ 127
    · exact use (x, 1, 0) (by rw [gl_cons, if_pos a]) (P7.rget_B f c x r hx.1 a)
    by_cases b : x = 128
    · subst b; exact use (0, 0, 10) (by simp [gl_cons]) (P7.rget_C0 f c r)
    by_cases b2 : 131 < x
    · exact use (0, 0, 10) (by simp [gl_cons, a, b2]) (P7.rget_C1 f c x r (by omega) (by omega))
    by_cases c1 : x = 129
    · subst c1
      match r, hb with
      | [], _ => exact P7.rget_D1 f c
      | y :: r, hb =>
        have hy := hb y (by simp)
        by_cases d : y ≤ 127
        · by_cases y0 : y = 0
          · subst y0; exact use (0, 0, 10) (by simp [gl_cons]) (P8.rget_Z1 f c r)
          · exact use (0, 0, 10) (by simp [gl_cons, d]) (P8.rget_F1 f c y r (by omega) d)
        · exact use (y, 2, 0) (by simp [gl_cons, d]) (P8.rget_E1 f c y r (by omega) hy.2)
    by_cases c2 : x = 130
    · subst c2
      match r, hb with
      | [], _ => exact P7.rget_D2 f c
      | [y], _ => exact P7.rget_D2a f c y
      | y :: z :: r, hb =>
        have hy := hb y (by simp)
        have hz := hb z (by simp)
        by_cases y0 : y = 0
        · subst y0; exact use (0, 0, 10) (by simp [gl_cons]) (P8.rget_Z2 f c z r hz.1 hz.2)
        · exact use (256 * y + z, 3, 0) (by simp [gl_cons, y0]) (P8.rget_E2 f c y z r (by omega) hy.2 hz.1 hz.2)
    obtain rfl : x = 131 := by omega
    match r, hb with
    | [], _ => exact P7.rget_D3 f c
    | [y], _ => exact P7.rget_D3a f c y
    | [y, z], _ => exact P7.rget_D3b f c y z
    | y :: z :: u :: r, hb =>
      have hy := hb y (by simp)
      have hz := hb z (by simp)
      have hu := hb u (by simp)
      by_cases y0 : y = 0
      · subst y0; exact use (0, 0, 10) (by simp [gl_cons]) (P9.rget_Z3 f c z u r hz.1 hz.2 hu.1 hu.2)
      · exact use (256 * (256 * y + z) + u, 4, 0) (by simp [gl_cons, y0]) (P9.rget_E3 f c y z u r (by omega) hy.2 hz.1 hz.2 hu.1 hu.2)
end E50

end
section
/- The reference's reader of tags at the evaluator: its rounds. No conditions. -/
open Ab Go TabE Sp E40
set_option maxRecDepth 20000
set_option linter.unusedSimpArgs false
set_option linter.unusedVariables false
set_option maxHeartbeats 8000000
namespace E51
attribute [local simp ↓] s_seq s_reg s_regd s_cond s_block s_cons s_consG
attribute [local simp] s_nil s_loop s_round s_lpn s_lpe s_lpr firstReg s_gt s_gf s_wb s_wu s_val s_valN s_skip s_calls s_callP s_cax lookR flatR pureKs s_ret s_rgx s_sqn s_sqr s_sqe s_cdb s_bkn s_bkr s_bke s_exit s_ret' s_skip' s_finr s_finn s_fin1 s_fix s_clean s_gc0 o_tmp o_int o_bool o_nil o_str o_fn o_nil' l_hit l_miss l_nil ol_nil ol_cons ol_some x_move x_assign x_pick pk_t pk_f x_bin bn_s x_un x_extract x_callF cl_no x_callB x_callBF frzV x_conv cvx convA frame0 binA intOp resL resA results1 sealLW AV.pure AV.pureL keepT x_alloc x_box bxx x_build bdx x_buildSlice bsx x_buildSliceF bsf x_load ldx x_store stx x_slice slx x_fieldAddr x_field x_index ixx x_indexAddr iax x_makeSlice msx x_makeSliceF msf x_nilCheck newK genOf setK lookK fillA writeL writeC readC conts TyI.mk1 sliceA boundsA boundsB fitsA numA indexAddrA fieldAddrA partA fieldA indexA appendA copyA builtinA AV.cells chunk gcH reach keysT keepK inKs AV.keys AV.keysL Ty.isAgg eq1 eqL convA.go ltI w_u8 w_u32 w_u64 w_i64 w_fdiv w_tdiv w_tmod IntKind.bits unA sc_int sc_bool sc_str sc_sl sc_ref sc_ptr sc_pel sc_nilp sc_fn sc_nilf sc_if sc_nili sc_agg sc_tup sc_mem bs_pure bs_kl bs_length bs_cells bs_all sl_row sealRow sealY sl_int sl_bool sl_str sl_sl sl_nilp sl_nilf sl_nili sl_pel sl_agg sl_tup sl_fn sl_if nat_1 bs_cons bs_nil i_beq i_bne x_mkF x_mkI x_tassert x_panic s_pan s_sqp s_bkp s_finp s_fixp s_lpp s_rgp s_retp s_site s_stxN s_stxO x_callT clx El.avs_len
def b88 : Code := lp c88 0
abbrev H (u : Int) (k : Bool) : Heap := [((1, 2, 0), bx [.int .u8 0, .bool false, .int .u32 0]), ((1, 5, 0), bx [.int .u8 u, .bool k, .int .u32 31])]
abbrev H0 : Heap := [((1, 2, 0), bx [.int .u8 0, .bool false, .int .u32 0])]
abbrev S (f : Bool) (xs : List Int) (c : Option Nat) (u : Int) (k : Bool) (a : Int) (i : Nat) : St := ⟨[(0, .sl f (bs xs) c), (2, .ptr (1, 2, 0) 0), (5, .ptr (1, 5, 0) 0), (6, .int .i64 (i : Int)), (7, .int .i64 a)], H u k⟩
abbrev S2 (f : Bool) (xs : List Int) (c : Option Nat) (u : Int) (k : Bool) (a : Int) (i : Nat) : St := ⟨[(0, .sl f (bs xs) c), (2, .ptr (1, 2, 0) 0), (5, .ptr (1, 5, 0) 0), (6, .int .i64 (i : Int)), (7, .int .i64 a), (72, .bool false)], H u k⟩
theorem aLoop_cl {g : St → Option (AExit × St)} {cl : St → St} {n : Nat} {s s' : St} (h : cl s = cl s') : aLoop g cl n s = aLoop g cl n s' := by cases n <;> simp only [aLoop, h]
theorem cl2 (f xs c u k a i) : cleanS 1 ((firstReg b88).bind fn88.head) (S2 f xs c u k a i) = cleanS 1 ((firstReg b88).bind fn88.head) (S f xs c u k a i) := rfl
theorem short (q k1 : Nat) (f c) (xs : List Int) (u k a) : rnd fn88 b88 q k1 (S f xs c u k a xs.length) = some (.ret, ⟨[(2, .ptr (1, 2, 0) 0), (3, .int .i64 0), (4, .int .i64 7)], H0⟩) := by
  simp [b88, lp, lps, c88]
theorem bad1 (q k1 : Nat) (f c) (xs : List Int) (u k a) (hx : xs[1]? = some 128) : rnd fn88 b88 q k1 (S f xs c u k a 1) = some (.ret, ⟨[(2, .ptr (1, 2, 0) 0), (3, .int .i64 0), (4, .int .i64 9)], H0⟩) := by
  have hi : 1 < xs.length := (List.getElem?_eq_some_iff.1 hx).1
  have ix1 : ∀ hp, indexAddrA E 22 (.sl f (bs xs) c) (.int .i64 1) hp = some (.pel [.int .u8 128]) := byte_at f c xs 1 128 hx
  have h8 : ¬ ((1 : Int) = xs.length) := by omega
  simp [b88, lp, lps, c88, -indexAddrA, ix1, h8]
theorem bad4 (q k1 : Nat) (f c) (xs : List Int) (u k a) (x : Int) (hx : xs[4]? = some x) (x0 : 128 ≤ x) (x1 : x < 256) : rnd fn88 b88 q k1 (S f xs c u k a 4) = some (.ret, ⟨[(2, .ptr (1, 2, 0) 0), (3, .int .i64 0), (4, .int .i64 9)], H0⟩) := by
  have hi : 4 < xs.length := (List.getElem?_eq_some_iff.1 hx).1
  have ix1 : ∀ hp, indexAddrA E 22 (.sl f (bs xs) c) (.int .i64 4) hp = some (.pel [.int .u8 x]) := byte_at f c xs 4 x hx
  have h8 : ¬ ((4 : Int) = xs.length) := by omega
  have h9 : 127 < x := by omega
  simp [b88, lp, lps, c88, -indexAddrA, ix1, h8, h9]
theorem go (q k1 : Nat) (f c) (xs : List Int) (u k a) (x : Int) (i : Nat) (hx : xs[i]? = some x) (i1 : 1 ≤ i) (i4 : i < 4) (x0 : 128 ≤ x) (x1 : x < 256) (nb : ¬ (i = 1 ∧ x = 128)) (a0 : 0 ≤ a) (a1 : a < 2097152) :
    rnd fn88 b88 q k1 (S f xs c u k a i) = some (.normal, S2 f xs c u k (128 * a + x % 128) (i + 1)) := by
  have hi : i < xs.length := (List.getElem?_eq_some_iff.1 hx).1
  have ix := byte_at f c xs i x hx
  have w := w64' ((i : Int) + 1) (by omega) (by omega)
  have w1 := w64' (128 * a) (by omega) (by omega)
  have w2 := w64' (x % 128) (by omega) (by omega)
  have w3 := w64' (128 * a + x % 128) (by omega) (by omega)
  have w4 := w64' (i : Int) (by omega) (by omega)
  have tm : Int.tmod x 128 = x % 128 := Int.tmod_eq_emod_of_nonneg (by omega)
  have h3 : ¬ x < 128 := by omega
  have h4 : ¬ ((i : Int) = 4) := by omega
  have h5 : ¬ ((i : Int) = xs.length) := by omega
  have h6 : ¬ (i = xs.length) := by omega
  have h7 : ¬ (i = 4) := by omega
  have ad : (i : Int) + 1 - 1 = i := by omega
  by_cases e1 : i = 1
  · subst e1
    have ix1 : ∀ hp, indexAddrA E 22 (.sl f (bs xs) c) (.int .i64 1) hp = some (.pel [.int .u8 x]) := ix
    have h8 : ¬ ((1 : Int) = xs.length) := by omega
    have nx : ¬ x = 128 := fun e => nb ⟨rfl, e⟩
    simp [b88, lp, lps, c88, -indexAddrA, ix1, w, w1, w2, w3, w4, tm, ad, h3, h5, h6, h8, nx]
  · have e2 : ¬ (i : Int) = 1 := by omega
    simp [b88, lp, lps, c88, -indexAddrA, ix, w, w1, w2, w3, w4, tm, ad, h3, h4, h5, h6, h7, e1, e2]
theorem fin (q k1 : Nat) (f c) (xs : List Int) (u k a) (x : Int) (i : Nat) (hx : xs[i]? = some x) (i1 : 1 ≤ i) (i4 : i ≤ 4) (x0 : 0 ≤ x) (x1 : x < 128) (a0 : 0 ≤ a) (a1 : a < 2097152) :
    rnd fn88 b88 q k1 (S f xs c u k a i) = some (.exit 0, ⟨[(0, .sl f (bs xs) c), (2, .ptr (1, 2, 0) 0), (5, .ptr (1, 5, 0) 0), (6, .int .i64 ((i : Int) + 1)), (7, .int .i64 (128 * a + x % 128)), (72, .bool true)], H u k⟩) := by
  have hi : i < xs.length := (List.getElem?_eq_some_iff.1 hx).1
  have ix := byte_at f c xs i x hx
  have w := w64' ((i : Int) + 1) (by omega) (by omega)
  have w1 := w64' (128 * a) (by omega) (by omega)
  have w2 := w64' (x % 128) (by omega) (by omega)
  have w3 := w64' (128 * a + x % 128) (by omega) (by omega)
  have w4 := w64' (i : Int) (by omega) (by omega)
  have tm : Int.tmod x 128 = x % 128 := Int.tmod_eq_emod_of_nonneg (by omega)
  have h3 : x < 128 := x1
  have h9 : ¬ (127 < x) := by omega
  have h5 : ¬ ((i : Int) = xs.length) := by omega
  have h6 : ¬ (i = xs.length) := by omega
  have nx : ¬ x = 128 := by omega
  have ad : (i : Int) + 1 - 1 = i := by omega
  by_cases e1 : i = 1
  · subst e1
    have ix1 : ∀ hp, indexAddrA E 22 (.sl f (bs xs) c) (.int .i64 1) hp = some (.pel [.int .u8 x]) := ix
    have h8 : ¬ ((1 : Int) = xs.length) := by omega
    simp [b88, lp, lps, c88, -indexAddrA, ix1, w, w1, w2, w3, w4, tm, ad, h3, h5, h6, h8, h9, nx]
  · by_cases e4 : i = 4
    · subst e4
      have ix1 : ∀ hp, indexAddrA E 22 (.sl f (bs xs) c) (.int .i64 4) hp = some (.pel [.int .u8 x]) := ix
      have h8 : ¬ ((4 : Int) = xs.length) := by omega
      simp [b88, lp, lps, c88, -indexAddrA, ix1, w, w1, w2, w3, w4, tm, ad, h3, h5, h6, h8, h9, nx]
    · have e2 : ¬ (i : Int) = 1 := by omega
      have h4 : ¬ ((i : Int) = 4) := by omega
      simp [b88, lp, lps, c88, -indexAddrA, ix, w, w1, w2, w3, w4, tm, ad, h3, h4, h5, h6, h9, e1, e2, e4, nx]
abbrev Lp (K : Nat) := aLoop (aCode E (aCall E K) (dcall (aRun E K)) K 1 fn88 b88) (cleanS 1 ((firstReg b88).bind fn88.head))
theorem loop (K : Nat) (f c) (xs : List Int) (hb : isB xs) (u k) : ∀ (r : List Int) (i : Nat) (a : Int) (n : Nat), xs.drop i = r → 1 ≤ i → i ≤ 4 → i ≤ xs.length → 0 ≤ a → (i = 4 → a < 2097152) → (i = 3 → a < 16384) → (i = 2 → a < 128) → (i = 1 → a = 0) → 5 ≤ n + i →
    (∃ e : Int, e ≠ 0 ∧ num r i a = (0, 0, e) ∧ Lp K n (S f xs c u k a i) = some (.ret, ⟨[(2, .ptr (1, 2, 0) 0), (3, .int .i64 0), (4, .int .i64 e)], H0⟩)) ∨
    (∃ v : Int, ∃ j : Nat, 0 ≤ v ∧ v < 268435456 ∧ j ≤ 4 ∧ num r i a = (if v < 31 then (0, 0, 9) else (v, (j : Int) + 1, 0)) ∧ Lp K n (S f xs c u k a i) = some (.exit 0, ⟨[(0, .sl f (bs xs) c), (2, .ptr (1, 2, 0) 0), (5, .ptr (1, 5, 0) 0), (6, .int .i64 ((j : Int) + 1)), (7, .int .i64 v), (72, .bool true)], H u k⟩))
  | [], i, a, n, h1, i1, i4, hl, a0, a4, a3, a2, aa, hk => by
    obtain ⟨n, rfl⟩ : ∃ j, n = j + 1 := ⟨n - 1, by omega⟩
    have := List.drop_eq_nil_iff.1 h1
    obtain rfl : i = xs.length := by omega
    exact .inl ⟨7, by omega, rfl, aLoop_end (short K K f c xs u k a) (by simp)⟩
  | x :: r, i, a, n, h1, i1, i4, hl, a0, a4, a3, a2, aa, hk => by
    obtain ⟨n, rfl⟩ : ∃ j, n = j + 1 := ⟨n - 1, by omega⟩
    have hx : xs[i]? = some x := by
      have := congrArg (fun l => l[0]?) h1
      simpa [List.getElem?_drop] using this
    have hd : xs.drop (i + 1) = r := by
      have := congrArg List.tail h1
      simpa [List.tail_drop] using this
    have hi : i < xs.length := (List.getElem?_eq_some_iff.1 hx).1
    have xb := hb x (List.mem_of_getElem? hx)
    unfold num
    by_cases b1 : (i : Int) = 1 ∧ x = 128
    · obtain ⟨q1, rfl⟩ := b1
      obtain rfl : i = 1 := by omega
      rw [if_pos (.inl ⟨rfl, rfl⟩)]
      exact .inl ⟨9, by omega, rfl, aLoop_end (bad1 K K f c xs u k a hx) (by simp)⟩
    by_cases b4 : (i : Int) = 4 ∧ 128 ≤ x
    · obtain ⟨q1, q2⟩ := b4
      obtain rfl : i = 4 := by omega
      rw [if_pos (.inr ⟨rfl, q2⟩)]
      exact .inl ⟨9, by omega, rfl, aLoop_end (bad4 K K f c xs u k a x hx q2 xb.2) (by simp)⟩
    rw [if_neg (fun h => h.elim b1 b4)]
    by_cases lt : x < 128
    · rw [if_pos lt]
      refine .inr ⟨128 * a + x % 128, i, by omega, by omega, i4, rfl, aLoop_end (fin K K f c xs u k a x i hx i1 i4 xb.1 lt a0 (by omega)) (by simp)⟩
    · rw [if_neg lt]
      have st := go K K f c xs u k a x i hx i1 (by omega) (by omega) xb.2 (fun h => b1 ⟨by omega, h.2⟩) a0 (by omega)
      have := loop K f c xs hb u k r (i + 1) (128 * a + x % 128) n hd (by omega) (by omega) (by omega) (by omega) (by omega) (by omega) (by omega) (by omega) (by omega)
      have e : ((i + 1 : Nat) : Int) = (i : Int) + 1 := by omega
      rw [e] at this
      show (∃ e : Int, e ≠ 0 ∧ _ ∧ aLoop _ _ (n + 1) _ = _) ∨ _
      unfold Lp at this ⊢
      rw [aLoop_succ st, aLoop_cl (cl2 f xs c u k _ _)]
      exact this
end E51

end
section
/- The reference's reader of tags at the evaluator. No conditions. -/
open Ab Go TabE Sp E40 E51
set_option maxRecDepth 20000
set_option linter.unusedSimpArgs false
set_option linter.unusedVariables false
set_option maxHeartbeats 8000000
namespace E52
theorem rtag (f c) (xs : List Int) (hb : isB xs) : Con E 60 88 [.sl f (bs xs) c] (.tup [.agg [.int .u8 (gt xs).1.1, .bool (gt xs).1.2.1, .int .u32 (gt xs).1.2.2], .int .i64 (gt xs).2.1, .int .i64 (gt xs).2.2]) := by
  refine con_of E_fn88 (by simp [AV.pureL, AV.pure]) (Nat.le_of_ble_eq_true rfl) rfl rfl (g := []) ?_
  rw [body_88, c88]
  cases xs with
  | nil => simp [↓s_seq, ↓s_reg, ↓s_cond, ↓s_cons, s_nil, s_val, s_skip, s_rgx, s_sqn, s_sqr, s_cdb, s_ret', s_finr, s_fin1, s_fix, s_clean, o_tmp, o_int, l_hit, l_miss, ol_nil, ol_cons, ol_some, x_move, x_assign, x_bin, bn_s, x_callB, frame0, binA, intOp, resL, resA, results1, AV.pure, AV.pureL, keepT, x_alloc, x_build, bdx, x_store, stx, newK, genOf, setK, lookK, fillA, writeL, writeC, readC, conts, TyI.mk1, appendA, copyA, builtinA, AV.cells, gcH, reach, keysT, keepK, inKs, AV.keys, AV.keysL, Ty.isAgg, sc_int, sc_bool, sl_tup, bs_nil, gt, bs_nil]
  | cons x r =>
    have xb := hb x (List.mem_cons_self ..)
    have T := fun n => E2.ref_ok (x / 64) (decide (x / 32 % 2 = 1)) n 59 (by omega) 0
    have ix : ∀ hp, indexAddrA E 22 (.sl f (bs (x :: r)) c) (.int .i64 0) hp = some (.pel [.int .u8 x]) := byte_at f c (x :: r) 0 x rfl
    have gz : gt (x :: r) = (let p := if x % 32 = 31 then num r 1 0 else (x % 32, 1, 0)
      let e := if p.2.2 = 0 then tagE (x / 64) (decide (x / 32 % 2 = 1)) p.1 else p.2.2
      if e ≠ 0 then ((0, false, 0), 0, e) else ((x / 64, decide (x / 32 % 2 = 1), p.1), p.2.1, 0)) := rfl
    have ne : (x :: r).length ≠ 0 := by simp
    have L := E51.loop 59 f c (x :: r) hb (x / 64) (decide (x / 32 % 2 = 1)) r 1 0 59 rfl (by omega) (by omega) (by simp) (by omega) (by omega) (by omega) (by omega) (by omega) (by omega)
    obtain ⟨xs, hxs⟩ : ∃ xs, x :: r = xs := ⟨_, rfl⟩
    rw [gz]
    rw [hxs] at L ix ne ⊢
    have d1 : Int.tdiv x 64 = x / 64 := Int.tdiv_eq_ediv_of_nonneg xb.1
    have d2 : Int.tdiv x 32 = x / 32 := Int.tdiv_eq_ediv_of_nonneg xb.1
    have d3 : Int.tmod x 32 = x % 32 := Int.tmod_eq_emod_of_nonneg xb.1
    have d4 : Int.tmod (x / 32) 2 = x / 32 % 2 := Int.tmod_eq_emod_of_nonneg (by omega)
    have w8 : (x % 32) % 4294967296 = x % 32 := Int.emod_eq_of_lt (by omega) (by omega)
    have w9 : (x / 64) % 256 = x / 64 := Int.emod_eq_of_lt (by omega) (by omega)
    have w7 : (x / 32) % 256 = x / 32 := Int.emod_eq_of_lt (by omega) (by omega)
    by_cases h31 : x % 32 = 31
    · rcases L with ⟨e, e0, hn, L⟩ | ⟨v, j, v0, v1, j4, hn, L⟩
      · have hn' : num r 1 0 = (0, 0, e) := hn
        rw [hn']
        simp [E51.Lp, E51.b88, lp, lps, c88, firstReg, E51.S, E51.H, E51.H0, bx] at L
        simp [↓s_seq, ↓s_reg, ↓s_regd, ↓s_cond, ↓s_block, ↓s_cons, s_nil, s_loop, firstReg, s_val, s_skip, s_rgx, s_sqn, s_sqr, s_cdb, s_bkr, s_skip', s_finr, s_fin1, s_fix, s_clean, o_tmp, o_int, l_hit, l_miss, ol_nil, ol_cons, ol_some, x_move, x_assign, x_bin, bn_s, x_callB, x_conv, cvx, convA, frame0, binA, intOp, resL, resA, results1, AV.pure, AV.pureL, keepT, x_alloc, x_build, bdx, x_load, ldx, x_store, stx, x_fieldAddr, x_indexAddr, iax, newK, genOf, setK, lookK, fillA, writeL, writeC, readC, conts, TyI.mk1, fieldAddrA, appendA, copyA, builtinA, AV.cells, gcH, reach, keysT, keepK, inKs, AV.keys, AV.keysL, Ty.isAgg, w_u8, w_u32, sc_int, sc_bool, bs_length, sl_tup, i_beq, ix, L, d1, d2, d3, d4, h31, e0, ne, w9, w7]
      · have hn' : num r 1 0 = (if v < 31 then (0, 0, 9) else (v, (j : Int) + 1, 0)) := hn
        rw [hn']
        simp [E51.Lp, E51.b88, lp, lps, c88, firstReg, E51.S, E51.H, bx] at L
        have w10 : v % 4294967296 = v := Int.emod_eq_of_lt (by omega) (by omega)
        by_cases lt : v < 31
        · simp [↓s_seq, ↓s_reg, ↓s_regd, ↓s_cond, ↓s_block, ↓s_cons, s_nil, s_loop, firstReg, s_val, s_skip, s_rgx, s_sqn, s_sqr, s_cdb, s_bke, s_ret', s_skip', s_finr, s_fin1, s_fix, s_clean, o_tmp, o_int, l_hit, l_miss, ol_nil, ol_cons, ol_some, x_move, x_assign, x_bin, bn_s, x_callB, x_conv, cvx, convA, frame0, binA, intOp, resL, resA, results1, AV.pure, AV.pureL, keepT, x_alloc, x_build, bdx, x_load, ldx, x_store, stx, x_fieldAddr, x_indexAddr, iax, newK, genOf, setK, lookK, fillA, writeL, writeC, readC, conts, TyI.mk1, fieldAddrA, appendA, copyA, builtinA, AV.cells, gcH, reach, keysT, keepK, inKs, AV.keys, AV.keysL, Ty.isAgg, w_u8, w_u32, sc_int, sc_bool, bs_length, sl_tup, i_beq, ix, L, d1, d2, d3, d4, h31, lt, ne, w9, w7]
        · by_cases te : tagE (x / 64) (decide (x / 32 % 2 = 1)) v = 0
          · simp [↓s_seq, ↓s_reg, ↓s_regd, ↓s_cond, ↓s_block, ↓s_cons, s_nil, s_loop, firstReg, s_val, s_skip, s_calls, s_cax, s_ret, s_rgx, s_sqn, s_cdb, s_bke, s_ret', s_skip', s_finr, s_fin1, s_fix, s_clean, o_tmp, o_int, l_hit, l_miss, ol_nil, ol_cons, ol_some, x_move, x_assign, x_bin, bn_s, x_callF, cl_no, x_callB, x_conv, cvx, convA, frame0, binA, intOp, resL, resA, results1, sealLW, AV.pure, AV.pureL, keepT, x_alloc, x_build, bdx, x_load, ldx, x_store, stx, x_fieldAddr, x_indexAddr, iax, newK, genOf, setK, lookK, fillA, writeL, writeC, readC, conts, TyI.mk1, fieldAddrA, appendA, copyA, builtinA, AV.cells, gcH, reach, keysT, keepK, inKs, AV.keys, AV.keysL, Ty.isAgg, w_u8, w_u32, sc_int, sc_bool, bs_length, sl_agg, sl_tup, i_beq, ix, L, T, d1, d2, d3, d4, h31, lt, te, ne, w9, w7, w10]
          · simp [↓s_seq, ↓s_reg, ↓s_regd, ↓s_cond, ↓s_block, ↓s_cons, s_nil, s_loop, firstReg, s_val, s_skip, s_calls, s_cax, s_ret, s_rgx, s_sqn, s_sqr, s_cdb, s_bke, s_ret', s_skip', s_finr, s_fin1, s_fix, s_clean, o_tmp, o_int, l_hit, l_miss, ol_nil, ol_cons, ol_some, x_move, x_assign, x_bin, bn_s, x_callF, cl_no, x_callB, x_conv, cvx, convA, frame0, binA, intOp, resL, resA, results1, sealLW, AV.pure, AV.pureL, keepT, x_alloc, x_build, bdx, x_load, ldx, x_store, stx, x_fieldAddr, x_indexAddr, iax, newK, genOf, setK, lookK, fillA, writeL, writeC, readC, conts, TyI.mk1, fieldAddrA, appendA, copyA, builtinA, AV.cells, gcH, reach, keysT, keepK, inKs, AV.keys, AV.keysL, Ty.isAgg, w_u8, w_u32, sc_int, sc_bool, bs_length, sl_agg, sl_tup, i_beq, i_bne, ix, L, T, d1, d2, d3, d4, h31, lt, te, ne, w9, w7, w10]
    · by_cases te : tagE (x / 64) (decide (x / 32 % 2 = 1)) (x % 32) = 0
      · simp [↓s_seq, ↓s_reg, ↓s_regd, ↓s_cond, ↓s_cons, s_nil, s_val, s_skip, s_calls, s_cax, s_ret, s_rgx, s_sqn, s_cdb, s_ret', s_skip', s_finr, s_fin1, s_fix, s_clean, o_tmp, o_int, l_hit, l_miss, ol_nil, ol_cons, ol_some, x_move, x_assign, x_bin, bn_s, x_callF, cl_no, x_callB, x_conv, cvx, convA, frame0, binA, intOp, resL, resA, results1, sealLW, AV.pure, AV.pureL, keepT, x_alloc, x_build, bdx, x_load, ldx, x_store, stx, x_fieldAddr, x_indexAddr, iax, newK, genOf, setK, lookK, fillA, writeL, writeC, readC, conts, TyI.mk1, fieldAddrA, appendA, copyA, builtinA, AV.cells, gcH, reach, keysT, keepK, inKs, AV.keys, AV.keysL, Ty.isAgg, w_u8, w_u32, sc_int, sc_bool, bs_length, sl_agg, sl_tup, i_beq, ix, T, d1, d2, d3, d4, h31, te, ne, w8, w9, w7]
      · simp [↓s_seq, ↓s_reg, ↓s_regd, ↓s_cond, ↓s_cons, s_nil, s_val, s_skip, s_calls, s_cax, s_ret, s_rgx, s_sqn, s_sqr, s_cdb, s_ret', s_skip', s_finr, s_fin1, s_fix, s_clean, o_tmp, o_int, l_hit, l_miss, ol_nil, ol_cons, ol_some, x_move, x_assign, x_bin, bn_s, x_callF, cl_no, x_callB, x_conv, cvx, convA, frame0, binA, intOp, resL, resA, results1, sealLW, AV.pure, AV.pureL, keepT, x_alloc, x_build, bdx, x_load, ldx, x_store, stx, x_fieldAddr, x_indexAddr, iax, newK, genOf, setK, lookK, fillA, writeL, writeC, readC, conts, TyI.mk1, fieldAddrA, appendA, copyA, builtinA, AV.cells, gcH, reach, keysT, keepK, inKs, AV.keys, AV.keysL, Ty.isAgg, w_u8, w_u32, sc_int, sc_bool, bs_length, sl_agg, sl_tup, i_beq, i_bne, ix, T, d1, d2, d3, d4, h31, te, ne, w8, w9, w7]
end E52

end
section
/- The reference's reader of elements at the evaluator: its rounds. No conditions. -/
open Ab Go TabE Sp
set_option maxRecDepth 20000
set_option linter.unusedSimpArgs false
set_option linter.unusedVariables false
set_option maxHeartbeats 8000000
namespace E53
attribute [local simp ↓] s_seq s_reg s_regd s_cond s_block s_cons s_consG s_regD
attribute [local simp] s_nil s_loop s_round s_lpn s_lpe s_lpr firstReg s_gt s_gf s_wb s_wu s_val s_valN s_skip s_calls s_callP s_cax lookR flatR pureKs s_ret s_rgx s_sqn s_sqr s_sqe s_cdb s_bkn s_bkr s_bke s_exit s_ret' s_skip' s_finr s_finn s_fin1 s_fix s_clean s_gc0 o_tmp o_int o_bool o_nil o_str o_fn o_nil' l_hit l_miss l_nil ol_nil ol_cons ol_some x_move x_assign x_pick pk_t pk_f x_bin bn_s x_un x_extract x_callF cl_no x_callB x_callBF frzV x_conv cvx convA frame0 binA intOp resL resA results1 sealLW AV.pure AV.pureL keepT x_alloc x_box bxx x_build bdx x_buildSlice bsx x_buildSliceF bsf x_load ldx x_store stx x_slice slx x_fieldAddr x_field x_index ixx x_indexAddr iax x_makeSlice msx x_makeSliceF msf x_nilCheck newK genOf setK lookK fillA writeL writeC readC conts TyI.mk1 sliceA boundsA boundsB fitsA numA indexAddrA fieldAddrA partA fieldA indexA appendA copyA builtinA AV.cells chunk gcH reach keysT keepK inKs AV.keys AV.keysL Ty.isAgg eq1 eqL convA.go ltI w_u8 w_u32 w_u64 w_i64 w_fdiv w_tdiv w_tmod IntKind.bits unA sc_int sc_bool sc_str sc_sl sc_ref sc_ptr sc_pel sc_nilp sc_fn sc_nilf sc_if sc_nili sc_agg sc_tup sc_mem bs_pure bs_kl bs_length bs_cells bs_all sl_row sealRow sealY sl_int sl_bool sl_str sl_sl sl_nilp sl_nilf sl_nili sl_pel sl_agg sl_tup sl_fn sl_if nat_1 bs_cons bs_nil i_beq i_bne x_mkF x_mkI x_tassert x_panic s_pan s_sqp s_bkp s_finp s_fixp s_lpp s_rgp s_retp s_site s_stxN s_stxO x_callT clx El.avs_len s_dyn0 s_rgy barOf dynChk footL dynOK disjK keysOp opVals Op.operands
theorem cutR (f : Bool) (cp : Option Nat) (b : List Int) (a e : Nat) (h1 : a ≤ e) (h2 : e ≤ b.length) : ∀ h, sliceA E 22 (.sl f (bs b) cp) (some (.int .i64 (a : Int))) (some (.int .i64 (e : Int))) none h = some (.sl f (bs ((b.take e).drop a)) (cp.map fun q => q - a)) := by
  intro h
  have t : ((bs b).take e).drop a = bs ((b.take e).drop a) := by simp [bs, List.map_take, List.map_drop]
  simp [sliceA, boundsA, fitsA, numA, boundsB, h1, h2, t, bs_length]
  intro n0 n1
  have : a < b.length := by omega
  exact ⟨.int .u8 b[a], by simp [bs, this], rfl⟩
def lpN : Code := lp c68 0
abbrev Z : List AV := [.int .u8 0, .bool false, .int .u32 0, .sl true [] (some 0), .sl true [] (some 0)]
abbrev St0 (fl : Bool) (b : List Int) (cp : Option Nat) (c n d m : Int) (a e : Nat) : St := ⟨[(0, .sl fl (bs b) cp), (3, .int .i64 d), (10, .ptr (1, 10, 0) 0), (19, .int .i64 (a : Int)), (20, .int .i64 (e : Int)), (21, .ptr (1, 21, 0) 0), (22, .int .i64 m)], [((1, 10, 0), bx Z), ((1, 21, 0), bx [.int .u8 c, .bool true, .int .u32 n, .sl true [] (some 0), .sl true [] (some 0)])]⟩
abbrev StR (fl : Bool) (b : List Int) (cp : Option Nat) (c n d m : Int) (a e : Nat) (l : List El) (g : Nat) : St := ⟨[(0, .sl fl (bs b) cp), (3, .int .i64 d), (10, .ptr (1, 10, 0) 0), (19, .int .i64 (a : Int)), (20, .int .i64 (e : Int)), (21, .ptr (1, 21, 0) 0), (22, .int .i64 m)], [((1, 10, 0), bx Z), ((1, 21, 0), bx [.int .u8 c, .bool true, .int .u32 n, .sl true [] (some 0), .ref (1, 140, g) 0 l.length none]), ((1, 140, g), ⟨El.fl l, true, true, false, 5, true⟩)]⟩
abbrev Nx (q : Nat) (fl : Bool) (b : List Int) (cp : Option Nat) (a e : Nat) (d m : Int) (v : AV) : Prop := ∀ h, aCall E q 0 68 [.sl fl (bs b) cp, .int .i64 (a : Int), .int .i64 (e : Int), .int .i64 d, .int .i64 m] h = some (.ret v, h)
theorem go0 (q k1 : Nat) (fl b cp) (c n d m : Int) (a e a' : Nat) (m' : Int) (x : El) (hae : a < e) (d0 : 0 ≤ d) (d1 : d ≤ 100) (he : e ≤ 100000000) (C : Nx q fl b cp a e (d + 1) m (.tup [x.av, .int .i64 (a' : Int), .int .i64 m', .int .i64 0])) :
    rnd fn68 lpN q k1 (St0 fl b cp c n d m a e) = some (.normal, StR fl b cp c n d m' a' e [x] 0) := by
  have w := w64' (d + 1) (by omega) (by omega)
  have h1 : (a : Int) < e := by omega
  rw [El.av_eq] at C
  have f1 := El.fl_one x
  simp [lpN, lp, lps, c68, w, h1, hae, C, El.fl_one]
theorem goR (q k1 : Nat) (fl b cp) (c n d m : Int) (a e a' : Nat) (m' : Int) (l : List El) (g : Nat) (x : El) (hae : a < e) (d0 : 0 ≤ d) (d1 : d ≤ 100) (he : e ≤ 100000000) (hl : l.length ≤ 100000000) (C : Nx q fl b cp a e (d + 1) m (.tup [x.av, .int .i64 (a' : Int), .int .i64 m', .int .i64 0])) :
    rnd fn68 lpN q k1 (StR fl b cp c n d m a e l g) = some (.normal, StR fl b cp c n d m' a' e (l ++ [x]) (g + 1)) := by
  have w := w64' (d + 1) (by omega) (by omega)
  have h1 : (a : Int) < e := by omega
  rw [El.av_eq] at C
  have cs5 : (l.length + 1) * 56 ≤ 70368744177664 := by omega
  have f1 := El.fl_len l
  have f2 := El.fl_keys l
  have f3 : (El.fl l).take (l.length * 5) = El.fl l := by rw [El.fl_take, List.take_length]
  have f4 := El.fl_pure l
  have f5 := El.fl_scal l
  simp [lpN, lp, lps, c68, w, h1, hae, C, El.fl_snoc, f1, f2, f3, f4, f5, cs5, El.fl_keysr]
abbrev Bad (x y : Int) : Option (AExit × St) := some (.ret, ⟨[(10, .ptr (1, 10, 0) 0), (11, .int .i64 x), (12, .int .i64 0), (13, .int .i64 y)], [((1, 10, 0), bx Z)]⟩)
abbrev zv : AV := .agg [.int .u8 0, .bool false, .int .u32 0, .sl true [] (some 0), .sl true [] (some 0)]
theorem bad0 (q k1 : Nat) (fl b cp) (c n d m : Int) (a e : Nat) (x y : Int) (hae : a < e) (d0 : 0 ≤ d) (d1 : d ≤ 100) (he : e ≤ 100000000) (hy : y ≠ 0) (C : Nx q fl b cp a e (d + 1) m (.tup [zv, .int .i64 x, .int .i64 0, .int .i64 y])) :
    rnd fn68 lpN q k1 (St0 fl b cp c n d m a e) = Bad x y := by
  have w := w64' (d + 1) (by omega) (by omega)
  have h1 : (a : Int) < e := by omega
  simp [lpN, lp, lps, c68, w, h1, hae, C, hy]
theorem badR (q k1 : Nat) (fl b cp) (c n d m : Int) (a e : Nat) (l : List El) (g : Nat) (x y : Int) (hae : a < e) (d0 : 0 ≤ d) (d1 : d ≤ 100) (he : e ≤ 100000000) (hy : y ≠ 0) (C : Nx q fl b cp a e (d + 1) m (.tup [zv, .int .i64 x, .int .i64 0, .int .i64 y])) :
    rnd fn68 lpN q k1 (StR fl b cp c n d m a e l g) = Bad x y := by
  have w := w64' (d + 1) (by omega) (by omega)
  have h1 : (a : Int) < e := by omega
  have f2 := El.fl_keys l
  simp [lpN, lp, lps, c68, w, h1, hae, C, hy, f2]
theorem last0 (q k1 : Nat) (fl b cp) (c n d m : Int) (a e : Nat) (hae : e ≤ a) :
    rnd fn68 lpN q k1 (St0 fl b cp c n d m a e) = some (.exit 0, ⟨[(0, .sl fl (bs b) cp), (3, .int .i64 d), (10, .ptr (1, 10, 0) 0), (19, .int .i64 (a : Int)), (20, .int .i64 (e : Int)), (21, .ptr (1, 21, 0) 0), (22, .int .i64 m), (118, .bool false)], [((1, 10, 0), bx Z), ((1, 21, 0), bx [.int .u8 c, .bool true, .int .u32 n, .sl true [] (some 0), .sl true [] (some 0)])]⟩) := by
  have h1 : ¬ (a : Int) < e := by omega
  have h2 : ¬ a < e := by omega
  simp [lpN, lp, lps, c68, h1, h2, hae]
theorem lastR (q k1 : Nat) (fl b cp) (c n d m : Int) (a e : Nat) (l : List El) (g : Nat) (hae : e ≤ a) :
    rnd fn68 lpN q k1 (StR fl b cp c n d m a e l g) = some (.exit 0, ⟨[(0, .sl fl (bs b) cp), (3, .int .i64 d), (10, .ptr (1, 10, 0) 0), (19, .int .i64 (a : Int)), (20, .int .i64 (e : Int)), (21, .ptr (1, 21, 0) 0), (22, .int .i64 m), (118, .bool false)], [((1, 10, 0), bx Z), ((1, 21, 0), bx [.int .u8 c, .bool true, .int .u32 n, .sl true [] (some 0), .ref (1, 140, g) 0 l.length none]), ((1, 140, g), ⟨El.fl l, true, true, false, 5, true⟩)]⟩) := by
  have h1 : ¬ (a : Int) < e := by omega
  have h2 : ¬ a < e := by omega
  have f2 := El.fl_keys l
  simp [lpN, lp, lps, c68, h1, h2, hae, f2]
end E53

end
section
/- The reference's reader of elements at the evaluator. No conditions. -/
open Ab Go TabE Sp E53
set_option maxRecDepth 20000
set_option linter.unusedSimpArgs false
set_option linter.unusedVariables false
set_option maxHeartbeats 8000000
namespace E54
def res2 : Rr → AV
  | .ok c n m => .tup [(dec2 c).av, .int .i64 (n : Int), .int .i64 m, .int .i64 0]
  | .bad a e => .tup [zv, .int .i64 a, .int .i64 0, .int .i64 e]
abbrev Lp (K : Nat) := aLoop (aCode E (aCall E K) (dcall (aRun E K)) K 1 fn68 lpN) (cleanS 1 ((firstReg lpN).bind fn68.head))
def En (fl : Bool) (b : List Int) (cp : Option Nat) (c n d m : Int) (a e : Nat) (l : List El) : AExit × St :=
  if l = [] then (.exit 0, ⟨[(0, .sl fl (bs b) cp), (3, .int .i64 d), (10, .ptr (1, 10, 0) 0), (19, .int .i64 (a : Int)), (20, .int .i64 (e : Int)), (21, .ptr (1, 21, 0) 0), (22, .int .i64 m), (118, .bool false)], [((1, 10, 0), bx Z), ((1, 21, 0), bx [.int .u8 c, .bool true, .int .u32 n, .sl true [] (some 0), .sl true [] (some 0)])]⟩)
  else (.exit 0, ⟨[(0, .sl fl (bs b) cp), (3, .int .i64 d), (10, .ptr (1, 10, 0) 0), (19, .int .i64 (a : Int)), (20, .int .i64 (e : Int)), (21, .ptr (1, 21, 0) 0), (22, .int .i64 m), (118, .bool false)], [((1, 10, 0), bx Z), ((1, 21, 0), bx [.int .u8 c, .bool true, .int .u32 n, .sl true [] (some 0), .ref (1, 140, l.length - 1) 0 l.length none]), ((1, 140, l.length - 1), ⟨El.fl l, true, true, false, 5, true⟩)]⟩)
def Sx (fl : Bool) (b : List Int) (cp : Option Nat) (c n d m : Int) (a e : Nat) (l : List El) : St := if l = [] then St0 fl b cp c n d m a e else StR fl b cp c n d m a e l (l.length - 1)
abbrev Kn (f : Nat) : Prop := ∀ (fl : Bool) (b : List Int) (cp : Option Nat) (a e : Nat) (d m : Int), isB b → b.length ≤ 100000000 → a ≤ e → e ≤ b.length → 0 ≤ d → d ≤ 17 → 0 ≤ m → m ≤ 8192 → e - a + 1 ≤ f → Con E (f + 200) 68 [.sl fl (bs b) cp, .int .i64 (a : Int), .int .i64 (e : Int), .int .i64 d, .int .i64 m] (res2 (rd f b a e d m))
theorem loop (K : Nat) (fl : Bool) (b : List Int) (cp : Option Nat) (c n d : Int) (e : Nat) (hb : isB b) (lb : b.length ≤ 100000000) (he : e ≤ b.length) (d0 : 0 ≤ d) (d1 : d ≤ 16) : ∀ (f : Nat), (∀ j, j < f → Kn j) → f + 200 ≤ K → ∀ (a : Nat) (m : Int) (l : List El) (k : Nat), a ≤ e → 0 ≤ m → m ≤ 8192 → l.length + (e - a) ≤ 100000000 → e - a + 2 ≤ f → e - a < k →
    match rds f b a e (d + 1) m with
    | .inl (s, m') => ∃ a', Lp K k (Sx fl b cp c n d m a e l) = some (En fl b cp c n d m' a' e (l ++ decs2 s))
    | .inr (x, y) => Lp K k (Sx fl b cp c n d m a e l) = Bad x y := by
  intro f
  induction f with
  | zero => intro _ _ a m l k _ _ _ _ h; omega
  | succ f ih =>
    intro hK hf a m l k ha m0 m1 hl h1 h2
    obtain ⟨k, rfl⟩ : ∃ j, k = j + 1 := ⟨k - 1, by omega⟩
    rw [rds]
    by_cases q : e ≤ a
    · rw [if_pos q]
      refine ⟨a, ?_⟩
      rw [decs2, List.append_nil]
      unfold Sx En
      by_cases hl0 : l = []
      · rw [if_pos hl0, if_pos hl0]; exact aLoop_end (last0 K K fl b cp c n d m a e q) (by simp)
      · rw [if_neg hl0, if_neg hl0]; exact aLoop_end (lastR K K fl b cp c n d m a e l _ q) (by simp)
    rw [if_neg q]
    have C := hK f (by omega) fl b cp a e (d + 1) m hb lb ha he (by omega) (by omega) m0 m1 (by omega)
    cases hr : rd f b a e (d + 1) m with
    | bad x y =>
      have y0 := (bad_ne f).1 b a e (d + 1) m x y hr
      rw [hr] at C
      have C' : Nx K fl b cp a e (d + 1) m (.tup [zv, .int .i64 x, .int .i64 0, .int .i64 y]) := fun h => C K (by omega) 0 h
      show Lp K (k + 1) _ = _
      unfold Sx
      by_cases hl0 : l = []
      · rw [if_pos hl0]; exact aLoop_end (bad0 K K fl b cp c n d m a e x y (by omega) d0 (by omega) (by omega) y0 C') (by simp)
      · rw [if_neg hl0]; exact aLoop_end (badR K K fl b cp c n d m a e l _ x y (by omega) d0 (by omega) (by omega) y0 C') (by simp)
    | ok cc a' m' =>
      have R := rd_back f b a e (d + 1) m cc a' m' hb he ha m1 hr
      have cp1 := cnt_pos cc
      rw [hr] at C
      have C' : Nx K fl b cp a e (d + 1) m (.tup [(dec2 cc).av, .int .i64 (a' : Int), .int .i64 m', .int .i64 0]) := fun h => C K (by omega) 0 h
      have st : rnd fn68 lpN K K (Sx fl b cp c n d m a e l) = some (.normal, Sx fl b cp c n d m' a' e (l ++ [dec2 cc])) := by
        unfold Sx
        rw [if_neg (show ¬ (l ++ [dec2 cc] = []) by simp)]
        by_cases hl0 : l = []
        · subst hl0; rw [if_pos rfl]; exact go0 K K fl b cp c n d m a e a' m' (dec2 cc) (by omega) d0 (by omega) (by omega) C'
        · rw [if_neg hl0]
          have hp : 0 < l.length := List.length_pos_iff.2 hl0
          have e1 : (l ++ [dec2 cc]).length - 1 = l.length - 1 + 1 := by rw [List.length_append, List.length_singleton]; omega
          rw [e1]
          exact goR K K fl b cp c n d m a e a' m' l (l.length - 1) (dec2 cc) (by omega) d0 (by omega) (by omega) (by omega) C'
      have I := ih (fun j hj => hK j (by omega)) (by omega) a' m' (l ++ [dec2 cc]) k R.r (by have := R.n; omega) R.k (by rw [List.length_append, List.length_singleton]; have := R.l; have := R.r; omega) (by have := R.l; omega) (by have := R.l; omega)
      cases hr2 : rds f b a' e (d + 1) m' with
      | inl p =>
        obtain ⟨s, m2⟩ := p
        rw [hr2] at I
        simp only at I
        simp only [hr2]
        obtain ⟨a2, I⟩ := I
        refine ⟨a2, ?_⟩
        rw [List.append_assoc] at I
        rw [decs2]
        exact (aLoop_succ (f := aCode E (aCall E K) (dcall (aRun E K)) K 1 fn68 lpN) (cl := cleanS 1 ((firstReg lpN).bind fn68.head)) st).trans I
      | inr p =>
        obtain ⟨x, y⟩ := p
        rw [hr2] at I
        simp only at I
        simp only [hr2]
        exact (aLoop_succ (f := aCode E (aCall E K) (dcall (aRun E K)) K 1 fn68 lpN) (cl := cleanS 1 ((firstReg lpN).bind fn68.head)) st).trans I
end E54

end
section
/- The reference's reader of elements at the evaluator: what it answers. No conditions. -/
open Ab Go TabE Sp E40 E53 E54
set_option maxRecDepth 20000
set_option linter.unusedSimpArgs false
set_option linter.unusedVariables false
set_option maxHeartbeats 8000000
namespace E55
theorem isB_sub {b : List Int} (hb : isB b) (a e : Nat) : isB ((b.take e).drop a) := fun y hy => hb y (List.mem_of_mem_take (List.mem_of_mem_drop hy))
abbrev St1 (fl : Bool) (b : List Int) (cp : Option Nat) (c n d m : Int) (a e : Nat) : St := ⟨[(0, .sl fl (bs b) cp), (3, .int .i64 d), (10, .ptr (1, 10, 0) 0), (19, .int .i64 (a : Int)), (20, .int .i64 (e : Int)), (21, .ptr (1, 21, 0) 0), (22, .int .i64 m), (104, .bool false)], [((1, 10, 0), bx Z), ((1, 21, 0), bx [.int .u8 c, .bool true, .int .u32 n, .sl true [] (some 0), .sl true [] (some 0)])]⟩
theorem cl1 (fl b cp c n d m a e) : cleanS 1 ((firstReg lpN).bind fn68.head) (St1 fl b cp c n d m a e) = cleanS 1 ((firstReg lpN).bind fn68.head) (St0 fl b cp c n d m a e) := rfl
theorem step (f : Nat) (ih : ∀ j, j < f + 1 → Kn j) : Kn (f + 1) := by
  intro fl b cp a e d m hb lb ha he d0 d1 m0 m1 hf
  obtain ⟨K, hK⟩ : ∃ K, f + 200 = K := ⟨_, rfl⟩
  have eK : f + 1 + 200 = K + 1 := by omega
  rw [eK]
  refine con_of E_fn68 (by simp [AV.pureL, AV.pure]) (Nat.le_of_ble_eq_true rfl) rfl rfl (g := []) ?_
  rw [body_68, c68]
  have cut1 := cutR fl cp b a e ha he
  have T := E52.rtag fl (cp.map fun q => q - a) _ (isB_sub hb a e) K (by omega) 0
  have xl := xs_len b (a := a) he
  by_cases te0 : (gt ((b.take e).drop a)).2.2 = 0
  case neg =>
    have g := gt_n _ te0
    rw [rd_tag te0]
    generalize (gt ((b.take e).drop a)).2.2 = te at g te0
    rw [g] at T
    by_cases t7 : te = 7
    · subst t7; rw [if_pos rfl]; simp [↓s_seq, ↓s_reg, ↓s_cond, ↓s_cons, s_nil, s_val, s_skip, s_calls, s_cax, s_ret, s_rgx, s_sqn, s_sqr, s_cdb, s_ret', s_finr, s_fin1, s_fix, s_clean, o_tmp, o_int, l_hit, l_miss, ol_nil, ol_cons, ol_some, x_move, x_assign, x_bin, bn_s, x_extract, x_callF, cl_no, frame0, binA, intOp, resL, resA, results1, sealLW, AV.pure, AV.pureL, keepT, x_alloc, x_build, bdx, x_store, stx, x_slice, slx, newK, genOf, setK, lookK, fillA, writeL, writeC, readC, TyI.mk1, AV.cells, gcH, reach, keysT, keepK, inKs, AV.keys, AV.keysL, Ty.isAgg, sc_int, sc_bool, sc_sl, sl_sl, sl_tup, cut1, T, res2, zv]
    · rw [if_neg t7]; simp [↓s_seq, ↓s_reg, ↓s_cond, ↓s_cons, s_nil, s_val, s_skip, s_calls, s_cax, s_ret, s_rgx, s_sqn, s_sqr, s_cdb, s_ret', s_skip', s_finr, s_fin1, s_fix, s_clean, o_tmp, o_int, l_hit, l_miss, ol_nil, ol_cons, ol_some, x_move, x_assign, x_bin, bn_s, x_extract, x_callF, cl_no, frame0, binA, intOp, resL, resA, results1, sealLW, AV.pure, AV.pureL, keepT, x_alloc, x_build, bdx, x_store, stx, x_slice, slx, newK, genOf, setK, lookK, fillA, writeL, writeC, readC, TyI.mk1, AV.cells, gcH, reach, keysT, keepK, inKs, AV.keys, AV.keysL, Ty.isAgg, sc_int, sc_bool, sc_sl, sl_sl, sl_tup, i_beq, i_bne, cut1, T, res2, zv, t7, te0]
  obtain ⟨⟨⟨c, k, n⟩, ts, te⟩, hg⟩ : ∃ g, gt ((b.take e).drop a) = g := ⟨_, rfl⟩
  rw [hg] at te0
  simp only at te0
  subst te0
  obtain ⟨r, x1, rfl, t1, t2, t3⟩ := gt_back _ (isB_sub hb a e) c k n ts hg
  have tb := tagO_len c k n
  rw [x1, List.length_append] at xl
  have x2 : (b.take e).drop (a + (TG.tagO c k n).length) = r := by rw [← List.drop_drop, x1, List.drop_left']; rfl
  generalize (TG.tagO c k n).length = tl at *
  rw [hg] at T
  have t3' := tagE_3 t1
  have w1 := w64' ((a : Int) + tl) (by omega) (by omega)
  have cut2 := cutR fl cp b (a + tl) e (by omega) he
  rw [Int.natCast_add] at cut2
  have LG := E50.rget fl (cp.map fun q => q - (a + tl)) _ (isB_sub hb (a + tl) e) K (by omega) 0
  obtain ⟨⟨L, lS, le⟩, hl⟩ : ∃ g, gl ((b.take e).drop (a + tl)) = g := ⟨_, rfl⟩
  have hl2 := hl
  rw [x2] at hl2
  rw [hl] at LG
  by_cases d16 : 16 < d
  · have : rd (f + 1) b a e d m = .bad a 12 := by
      rw [rd]; simp only [hg, Int.toNat_natCast]; rw [if_neg (by omega), if_neg (by simp), if_pos d16]
    rw [this]
    simp [↓s_seq, ↓s_reg, ↓s_cond, ↓s_cons, s_nil, s_val, s_skip, s_calls, s_cax, s_ret, s_rgx, s_sqn, s_sqr, s_cdb, s_ret', s_skip', s_finr, s_fin1, s_fix, s_clean, o_tmp, o_int, l_hit, l_miss, ol_nil, ol_cons, ol_some, x_move, x_assign, x_bin, bn_s, x_extract, x_callF, cl_no, frame0, binA, intOp, resL, resA, results1, sealLW, AV.pure, AV.pureL, keepT, x_alloc, x_build, bdx, x_store, stx, x_slice, slx, newK, genOf, setK, lookK, fillA, writeL, writeC, readC, TyI.mk1, AV.cells, gcH, reach, keysT, keepK, inKs, AV.keys, AV.keysL, Ty.isAgg, sc_int, sc_bool, sc_sl, sl_sl, sl_tup, i_beq, cut1, T, res2, zv, d16]
  by_cases m8 : m = 8192
  · have : rd (f + 1) b a e d m = .bad a 3 := by
      rw [rd]; simp only [hg, Int.toNat_natCast]; rw [if_neg (by omega), if_neg (by simp), if_neg d16, if_pos m8]
    rw [this]
    simp [↓s_seq, ↓s_reg, ↓s_cond, ↓s_cons, s_nil, s_val, s_skip, s_calls, s_cax, s_ret, s_rgx, s_sqn, s_sqr, s_cdb, s_ret', s_skip', s_finr, s_fin1, s_fix, s_clean, o_tmp, o_int, l_hit, l_miss, ol_nil, ol_cons, ol_some, x_move, x_assign, x_bin, bn_s, x_extract, x_callF, cl_no, frame0, binA, intOp, resL, resA, results1, sealLW, AV.pure, AV.pureL, keepT, x_alloc, x_build, bdx, x_store, stx, x_slice, slx, newK, genOf, setK, lookK, fillA, writeL, writeC, readC, TyI.mk1, AV.cells, gcH, reach, keysT, keepK, inKs, AV.keys, AV.keysL, Ty.isAgg, sc_int, sc_bool, sc_sl, sl_sl, sl_tup, i_beq, cut1, T, res2, zv, d16, m8]
  have m8' : ¬ (8192 ≤ m) := by omega
  by_cases le0 : le = 0
  case neg =>
    have := gl_n r (by rw [hl2]; exact le0)
    rw [hl2] at this
    simp only [Prod.mk.injEq] at this
    obtain ⟨rfl, rfl, _⟩ := this
    rw [rd_eq (ll := 0) hg hl, if_neg (by omega), if_neg (by simp), if_neg d16, if_neg m8]
    by_cases l7 : le = 7
    · subst l7; rw [if_pos rfl]; simp [↓s_seq, ↓s_reg, ↓s_cond, ↓s_cons, ↓s_consG, s_nil, s_gf, s_wb, s_wu, s_val, s_skip, s_calls, s_cax, s_ret, s_rgx, s_sqn, s_sqr, s_cdb, s_ret', s_skip', s_finr, s_fin1, s_fix, s_clean, o_tmp, o_int, o_bool, l_hit, l_miss, ol_nil, ol_cons, ol_some, x_move, x_assign, x_pick, pk_t, x_bin, bn_s, x_extract, x_callF, cl_no, frame0, binA, intOp, resL, resA, results1, sealLW, AV.pure, AV.pureL, keepT, x_alloc, x_build, bdx, x_store, stx, x_slice, slx, newK, genOf, setK, lookK, fillA, writeL, writeC, readC, TyI.mk1, AV.cells, gcH, reach, keysT, keepK, inKs, AV.keys, AV.keysL, Ty.isAgg, sc_int, sc_bool, sc_sl, sl_sl, sl_tup, i_beq, cut1, cut2, T, LG, res2, zv, d16, m8', w1]
    · rw [if_neg l7, if_pos le0]; simp [↓s_seq, ↓s_reg, ↓s_cond, ↓s_cons, ↓s_consG, s_nil, s_gt, s_gf, s_wb, s_val, s_skip, s_calls, s_cax, s_ret, s_rgx, s_sqn, s_sqr, s_cdb, s_ret', s_skip', s_finr, s_fin1, s_fix, s_clean, o_tmp, o_int, o_bool, l_hit, l_miss, ol_nil, ol_cons, ol_some, x_move, x_assign, x_pick, pk_f, x_bin, bn_s, x_extract, x_callF, cl_no, frame0, binA, intOp, resL, resA, results1, sealLW, AV.pure, AV.pureL, keepT, x_alloc, x_build, bdx, x_store, stx, x_slice, slx, newK, genOf, setK, lookK, fillA, writeL, writeC, readC, TyI.mk1, AV.cells, gcH, reach, keysT, keepK, inKs, AV.keys, AV.keysL, Ty.isAgg, sc_int, sc_bool, sc_sl, sl_sl, sl_tup, i_beq, i_bne, cut1, cut2, T, LG, res2, zv, d16, m8', w1, l7, le0]
  subst le0
  have rb : isB r := by rw [← x2]; exact isB_sub hb _ e
  obtain ⟨r2, x3, rfl, l1, l2⟩ := gl_back r rb L lS hl2
  have ll1 := lenO_len L
  have xr := xs_len b (a := a + tl) he
  rw [x2, x3, List.length_append] at xr
  generalize (lenO L).length = ll at *
  obtain ⟨n', rfl⟩ := Int.eq_ofNat_of_zero_le l1
  rw [rd_eq hg hl, if_neg (by omega), if_neg (by simp), if_neg d16, if_neg m8, if_neg (by omega), if_neg (by simp), Int.toNat_natCast]
  have w2 := w64' ((e : Int) - a) (by omega) (by omega)
  have w3 := w64' ((e : Int) - a - tl) (by omega) (by omega)
  have w4 := w64' ((e : Int) - a - tl - ll) (by omega) (by omega)
  by_cases big : e < a + tl + ll + n'
  · have b2 : (e : Int) - a - tl - ll < n' := by omega
    rw [if_pos big]
    simp [↓s_seq, ↓s_reg, ↓s_cond, ↓s_cons, ↓s_consG, s_nil, s_gt, s_wb, s_val, s_skip, s_calls, s_cax, s_ret, s_rgx, s_sqn, s_sqr, s_cdb, s_ret', s_skip', s_finr, s_fin1, s_fix, s_clean, o_tmp, o_int, l_hit, l_miss, ol_nil, ol_cons, ol_some, x_move, x_assign, x_pick, pk_t, pk_f, x_bin, bn_s, x_extract, x_callF, cl_no, frame0, binA, intOp, resL, resA, results1, sealLW, AV.pure, AV.pureL, keepT, x_alloc, x_build, bdx, x_store, stx, x_slice, slx, newK, genOf, setK, lookK, fillA, writeL, writeC, readC, TyI.mk1, AV.cells, gcH, reach, keysT, keepK, inKs, AV.keys, AV.keysL, Ty.isAgg, sc_int, sc_bool, sc_sl, sl_sl, sl_tup, i_beq, cut1, cut2, T, LG, res2, zv, d16, m8', w1, w2, w3, w4, b2]
  have b2 : ¬ (e : Int) - a - tl - ll < n' := by omega
  rw [if_neg big]
  have w5 := w64' ((a : Int) + tl + ll) (by omega) (by omega)
  have w6 := w64' ((a : Int) + tl + ll + n') (by omega) (by omega)
  have w7 := w64' (m + 1) (by omega) (by omega)
  have ec : ((a + tl + ll : Nat) : Int) = (a : Int) + tl + ll := by omega
  have ec2 : ((a + tl + ll + n' : Nat) : Int) = (a : Int) + tl + ll + n' := by omega
  cases k with
  | false =>
    rw [if_pos rfl]
    have cut3 := cutR fl cp b (a + tl + ll) (a + tl + ll + n') (by omega) (by omega)
    rw [ec, ec2] at cut3
    have cl := xs_len b (a := a + tl + ll) (e := a + tl + ll + n') (by omega)
    generalize (b.take (a + tl + ll + n')).drop (a + tl + ll) = y at cut3 cl ⊢
    by_cases y0 : y = []
    · subst y0
      simp [bs_nil] at cut3
      simp [↓s_seq, ↓s_reg, ↓s_regd, ↓s_cond, ↓s_cons, ↓s_consG, s_nil, s_gt, s_wb, s_val, s_skip, s_calls, s_cax, s_ret, s_rgx, s_sqn, s_sqr, s_cdb, s_ret', s_skip', s_finr, s_fin1, s_fix, s_clean, o_tmp, o_int, l_hit, l_miss, ol_nil, ol_cons, ol_some, x_move, x_assign, x_pick, pk_t, pk_f, x_bin, bn_s, x_un, x_extract, x_callF, cl_no, x_callBF, frzV, frame0, binA, intOp, resL, resA, results1, sealLW, AV.pure, AV.pureL, keepT, x_alloc, x_build, bdx, x_load, ldx, x_store, stx, x_slice, slx, x_fieldAddr, newK, genOf, setK, lookK, fillA, writeL, writeC, readC, conts, TyI.mk1, fieldAddrA, appendA, copyA, builtinA, AV.cells, gcH, reach, keysT, keepK, inKs, AV.keys, AV.keysL, Ty.isAgg, unA, sc_int, sc_bool, sc_sl, sl_sl, sl_tup, bs_nil, i_beq, cut1, cut2, cut3, T, LG, res2, d16, m8', w1, w2, w3, w4, w5, w6, w7, b2, dec2, decs2, El.av, El.avs]
    · have z : y.length ≠ 0 := fun h => y0 (List.length_eq_zero_iff.1 h)
      have cpl : y.length ≤ 70368744177664 := by omega
      simp [↓s_seq, ↓s_reg, ↓s_regd, ↓s_cond, ↓s_cons, ↓s_consG, s_nil, s_gt, s_wb, s_val, s_skip, s_calls, s_cax, s_ret, s_rgx, s_sqn, s_sqr, s_cdb, s_ret', s_skip', s_finr, s_fin1, s_fix, s_clean, o_tmp, o_int, l_hit, l_miss, ol_nil, ol_cons, ol_some, x_move, x_assign, x_pick, pk_t, pk_f, x_bin, bn_s, x_un, x_extract, x_callF, cl_no, x_callBF, frzV, frame0, binA, intOp, resL, resA, results1, sealLW, AV.pure, AV.pureL, keepT, x_alloc, x_build, bdx, x_load, ldx, x_store, stx, x_slice, slx, x_fieldAddr, newK, genOf, setK, lookK, fillA, writeL, writeC, readC, conts, TyI.mk1, fieldAddrA, appendA, copyA, builtinA, AV.cells, gcH, reach, keysT, keepK, inKs, AV.keys, AV.keysL, Ty.isAgg, unA, sc_int, sc_bool, sc_sl, sc_mem, bs_pure, bs_length, bs_cells, bs_all, sl_sl, sl_tup, i_beq, cut1, cut2, cut3, T, LG, res2, d16, m8', w1, w2, w3, w4, w5, w6, w7, b2, dec2, decs2, El.av, El.avs, y0, z, cpl, El.chk_bs]
  | true =>
    rw [if_neg (by simp)]
    have LP := loop K fl b cp c n d (a + tl + ll + n') hb lb (by omega) d0 (by omega) f (fun j hj => ih j (by omega)) (by omega) (a + tl + ll) (m + 1) [] K (by omega) (by omega) (by omega) (by simp; omega) (by omega) (by omega)
    rw [Sx, if_pos rfl, E54.Lp, ← E51.aLoop_cl (cl1 fl b cp c n d (m + 1) (a + tl + ll) (a + tl + ll + n'))] at LP
    cases hr : rds f b (a + tl + ll) (a + tl + ll + n') (d + 1) (m + 1) with
    | inr p =>
      obtain ⟨x, y⟩ := p
      rw [hr] at LP
      simp [St1, lpN, lp, lps, c68, firstReg, E53.Z, bx] at LP
      simp [↓s_seq, ↓s_reg, ↓s_cond, ↓s_block, ↓s_cons, ↓s_consG, s_nil, s_loop, firstReg, s_gt, s_wb, s_val, s_skip, s_calls, s_cax, s_ret, s_rgx, s_sqn, s_sqr, s_cdb, s_bkr, s_skip', s_finr, s_fin1, s_fix, s_clean, o_tmp, o_int, l_hit, l_miss, ol_nil, ol_cons, ol_some, x_move, x_assign, x_pick, pk_t, pk_f, x_bin, bn_s, x_un, x_extract, x_callF, cl_no, frame0, binA, intOp, resL, resA, results1, sealLW, AV.pure, AV.pureL, keepT, x_alloc, x_build, bdx, x_load, ldx, x_store, stx, x_slice, slx, x_fieldAddr, newK, genOf, setK, lookK, fillA, writeL, writeC, readC, TyI.mk1, fieldAddrA, AV.cells, gcH, reach, keysT, keepK, inKs, AV.keys, AV.keysL, Ty.isAgg, unA, sc_int, sc_bool, sc_sl, sl_sl, sl_tup, i_beq, cut1, cut2, T, LG, LP, res2, zv, d16, m8', w1, w2, w3, w4, w5, w6, w7, b2]
    | inl p =>
      obtain ⟨s, m'⟩ := p
      rw [hr] at LP
      simp only at LP
      obtain ⟨a2, LP⟩ := LP
      rw [List.nil_append, En] at LP
      simp only
      cases s with
      | nil =>
        rw [decs2, if_pos rfl] at LP
        simp [St1, lpN, lp, lps, c68, firstReg, E53.Z, bx] at LP
        simp [↓s_seq, ↓s_reg, ↓s_cond, ↓s_block, ↓s_cons, ↓s_consG, s_nil, s_loop, firstReg, s_gt, s_wb, s_val, s_skip, s_calls, s_cax, s_ret, s_rgx, s_sqn, s_cdb, s_bke, s_ret', s_skip', s_finr, s_fin1, s_fix, s_clean, o_tmp, o_int, l_hit, l_miss, ol_nil, ol_cons, ol_some, x_move, x_assign, x_pick, pk_t, pk_f, x_bin, bn_s, x_un, x_extract, x_callF, cl_no, frame0, binA, intOp, resL, resA, results1, sealLW, AV.pure, AV.pureL, keepT, x_alloc, x_build, bdx, x_load, ldx, x_store, stx, x_slice, slx, x_fieldAddr, newK, genOf, setK, lookK, fillA, writeL, writeC, readC, TyI.mk1, fieldAddrA, AV.cells, gcH, reach, keysT, keepK, inKs, AV.keys, AV.keysL, Ty.isAgg, unA, sc_int, sc_bool, sc_sl, sl_sl, sl_tup, bs_nil, i_beq, cut1, cut2, T, LG, LP, res2, d16, m8', w1, w2, w3, w4, w5, w6, w7, b2, dec2, decs2, El.av, El.avs]
      | cons x s =>
        rw [if_neg (by rw [decs2]; simp)] at LP
        have ds : dec2 (.mk c true n [] (x :: s)) = .mk c true n true [] (some 0) false (decs2 (x :: s)) none := by rw [dec2]; rfl
        rw [res2, ds, El.av]
        generalize decs2 (x :: s) = l at LP ⊢
        simp [St1, lpN, lp, lps, c68, firstReg, E53.Z, bx] at LP
        have l1 := El.fl_len l
        have l2 := El.fl_keys l
        have l3 := El.fl_pure l
        have sx := fun n h key => E32.sealX_fl n h key l none true false
        simp [↓s_seq, ↓s_reg, ↓s_cond, ↓s_block, ↓s_cons, ↓s_consG, s_nil, s_loop, firstReg, s_gt, s_wb, s_val, s_skip, s_calls, s_cax, s_ret, s_rgx, s_sqn, s_cdb, s_bke, s_ret', s_skip', s_finr, s_fin1, s_fix, s_clean, o_tmp, o_int, l_hit, l_miss, ol_nil, ol_cons, ol_some, x_move, x_assign, x_pick, pk_t, pk_f, x_bin, bn_s, x_un, x_extract, x_callF, cl_no, frame0, binA, intOp, resL, resA, results1, sealLW, AV.pure, AV.pureL, keepT, x_alloc, x_build, bdx, x_load, ldx, x_store, stx, x_slice, slx, x_fieldAddr, newK, genOf, setK, lookK, fillA, writeL, writeC, readC, TyI.mk1, fieldAddrA, AV.cells, gcH, reach, keysT, keepK, inKs, AV.keys, AV.keysL, Ty.isAgg, unA, sc_int, sc_bool, sc_sl, sc_ref, sl_row, sealRow, sealY, sl_int, sl_bool, sl_sl, sl_agg, sl_tup, bs_nil, i_beq, cut1, cut2, T, LG, LP, d16, m8', w1, w2, w3, w4, w5, w6, w7, b2, l1, l2, l3, sx]
theorem next : ∀ f : Nat, Kn f := by
  intro f
  induction f using Nat.strongRecOn with
  | ind f ih =>
    cases f with
    | zero => intro fl b cp a e d m _ _ _ _ _ _ _ _ h; omega
    | succ f => exact step f ih
end E55

end
section
/- elements.element at the evaluator: its rounds. No conditions. -/
open Ab Go TabE Sp E53
set_option maxRecDepth 20000
set_option linter.unusedSimpArgs false
set_option linter.unusedVariables false
set_option maxHeartbeats 8000000
namespace E56
attribute [local simp ↓] s_seq s_reg s_regd s_cond s_block s_cons s_consG s_regD
attribute [local simp] s_nil s_loop s_round s_lpn s_lpe s_lpr firstReg s_gt s_gf s_wb s_wu s_val s_valN s_skip s_calls s_callP s_cax lookR flatR pureKs s_ret s_rgx s_sqn s_sqr s_sqe s_cdb s_bkn s_bkr s_bke s_exit s_ret' s_skip' s_finr s_finn s_fin1 s_fix s_clean s_gc0 o_tmp o_int o_bool o_nil o_str o_fn o_nil' l_hit l_miss l_nil ol_nil ol_cons ol_some x_move x_assign x_pick pk_t pk_f x_bin bn_s x_un x_extract x_callF cl_no x_callB x_callBF frzV x_conv cvx convA frame0 binA intOp resL resA results1 sealLW AV.pure AV.pureL keepT x_alloc x_box bxx x_build bdx x_buildSlice bsx x_buildSliceF bsf x_load ldx x_store stx x_slice slx x_fieldAddr x_field x_index ixx x_indexAddr iax x_makeSlice msx x_makeSliceF msf x_nilCheck newK genOf setK lookK fillA writeL writeC readC conts TyI.mk1 sliceA boundsA boundsB fitsA numA indexAddrA fieldAddrA partA fieldA indexA appendA copyA builtinA AV.cells chunk gcH reach keysT keepK inKs AV.keys AV.keysL Ty.isAgg eq1 eqL convA.go ltI w_u8 w_u32 w_u64 w_i64 w_fdiv w_tdiv w_tmod IntKind.bits unA sc_int sc_bool sc_str sc_sl sc_ref sc_ptr sc_pel sc_nilp sc_fn sc_nilf sc_if sc_nili sc_agg sc_tup sc_mem bs_pure bs_kl bs_length bs_cells bs_all sl_row sealRow sealY sl_int sl_bool sl_str sl_sl sl_nilp sl_nilf sl_nili sl_pel sl_agg sl_tup sl_fn sl_if nat_1 bs_cons bs_nil i_beq i_bne x_mkF x_mkI x_tassert x_panic s_pan s_sqp s_bkp s_finp s_fixp s_lpp s_rgp s_retp s_site s_stxN s_stxO x_callT clx El.avs_len s_dyn0 s_rgy barOf dynChk footL dynOK disjK keysOp opVals Op.operands sealA AV.scal
theorem clipE (f : Bool) (xs : List AV) (c : Option Nat) (hp : AV.pureL xs = true) : Con E 5 99 [.sl f xs c] (.sl f xs (some xs.length)) := by
  refine .of (g := []) (by simp [AV.pureL, AV.pure]) ?_
  rw [aCall_fn rfl E_fn99 (by simp [AV.pureL, AV.pure]) (Nat.le_of_ble_eq_true rfl) rfl rfl, body_99, c99]
  simp [hp]
abbrev R (fl : Bool) (b : List Int) (cp : Option Nat) (m : Int) : AObj := bx [.sl fl (bs b) cp, .int .i64 m]
theorem R_keys (fl b cp m) : AV.keysL (R fl b cp m).cells = [] := rfl
theorem R_rn (fl b cp m φ) : AV.rnL φ (R fl b cp m).cells = (R fl b cp m).cells := rfl
abbrev flt (x y : Int) : AV := .iface 110 (.agg [.int .i64 x, .int .i64 y])
theorem lent (h : Heap) (key : Key) (o : AObj) (hk : lookK h key = some o) (hl : o.live = true) (ko : AV.keysL o.cells = []) (ro : ∀ φ, AV.rnL φ o.cells = o.cells) (slot : Nat) (sr : Bool) (run : List AV → Heap → Option (ARes × Heap)) (x y z : Int) :
    lendA (dd (reach h 3 (AV.keysL [AV.ptr key 0, .int .i64 x, .int .i64 y, .int .i64 z]))) slot h [.ptr key 0, .int .i64 x, .int .i64 y, .int .i64 z] sr run = backR [key] slot h sr (run [.ptr (0, 0, 0) 0, .int .i64 x, .int .i64 y, .int .i64 z] [((0, 0, 0), o)]) := by
  have e0 : AV.keysL [AV.ptr key 0, .int .i64 x, .int .i64 y, .int .i64 z] = [key] := rfl
  rw [e0]
  have e1 : dd (reach h 3 [key]) = [key] := by simp [reach, hk, hl, ko, dd]
  rw [e1]
  unfold lendA
  have e2 : lendH h (inK [key]) [key] = some [((0, 0, 0), o)] := by simp [lendH, hk, inK, posK, ro]
  rw [e2]
  have e3 : closedH h [key] [key] = true := by simp [closedH, hk, ko]
  simp only [e0]
  rw [if_pos ⟨e3, by simp [inKs]⟩]
  have e4 : AV.rnL (inK [key]) [AV.ptr key 0, .int .i64 x, .int .i64 y, .int .i64 z] = [.ptr (0, 0, 0) 0, .int .i64 x, .int .i64 y, .int .i64 z] := by simp [AV.rnL, AV.rn, inK, posK]
  rw [e4]
theorem backK (h hf : Heap) (key : Key) (o' : AObj) (slot : Nat) (vs : List AV) (hp : AV.pureL vs = true) (hk : lookK hf (0, 0, 0) = some o') (hl : o'.live = true) (ko : AV.keysL o'.cells = []) (ro : ∀ φ, AV.rnL φ o'.cells = o'.cells) : Ab.back [key] slot h hf vs = some (vs, setK h key o') := by
  have kv : AV.keysL vs = [] := AV.keysL_pure _ hp
  have rv : ∀ φ, AV.rnL φ vs = vs := fun φ => rnL_pure vs hp
  unfold Ab.back
  have e9 : lentKs 1 = [(0, 0, 0)] := rfl
  have e7 : dd (reach hf 3 ([(0, 0, 0)] ++ [])) = [(0, 0, 0)] := by simp [reach, hk, hl, ko, dd]
  simp only [List.length_singleton, e9, kv, e7, backA]
  have e10 : closedH hf [(0, 0, 0)] [(0, 0, 0)] = true := by simp [closedH, hk, ko]
  rw [if_pos ⟨e10, by rfl, by rfl, by rfl⟩]
  simp [rv, outK, putAll, hk, ro]
theorem op_ok {run : RunF} {slot : Nat} {h hf : Heap} {key : Key} {o o' : AObj} {x y z : Int} {v : AV} (hk : lookK h key = some o) (hl : o.live = true) (ko : AV.keysL o.cells = []) (ro : ∀ φ, AV.rnL φ o.cells = o.cells) (hl' : o'.live = true) (ko' : AV.keysL o'.cells = []) (ro' : ∀ φ, AV.rnL φ o'.cells = o'.cells)
    (hv : v.pure = true) (hr : run 73 [.ptr (0, 0, 0) 0, .int .i64 x, .int .i64 y, .int .i64 z] [((0, 0, 0), o)] = some (.ret v, hf)) (hq : lookK hf (0, 0, 0) = some o') :
    opened [true, false, false, false] true run slot 73 [.ptr key 0, .int .i64 x, .int .i64 y, .int .i64 z] h = some (.ret v, setK h key o') := by
  unfold opened
  have e1 : sealM (sealA 20) [true, false, false, false] h [.ptr key 0, .int .i64 x, .int .i64 y, .int .i64 z] = some ([.ptr key 0, .int .i64 x, .int .i64 y, .int .i64 z], h) := by simp [sealM, sealA, AV.pure]
  rw [e1]
  simp only
  rw [lent h key o hk hl ko ro, hr]
  have e2 : sealA 20 hf v = some (v, hf) := by unfold sealA; rw [if_pos hv]
  simp only [backR, if_true, e2, backV]
  rw [backK h hf key o' slot [v] (by simp [AV.pureL, hv]) hq hl' ko' ro']
theorem op_bad {run : RunF} {slot : Nat} {h hf : Heap} {key : Key} {o o' : AObj} {x y z : Int} {ch : List AV} (hk : lookK h key = some o) (hl : o.live = true) (ko : AV.keysL o.cells = []) (ro : ∀ φ, AV.rnL φ o.cells = o.cells) (hl' : o'.live = true) (ko' : AV.keysL o'.cells = []) (ro' : ∀ φ, AV.rnL φ o'.cells = o'.cells)
    (hv : AV.pureL ch = true) (hr : run 73 [.ptr (0, 0, 0) 0, .int .i64 x, .int .i64 y, .int .i64 z] [((0, 0, 0), o)] = some (.panic ch, hf)) (hq : lookK hf (0, 0, 0) = some o') :
    opened [true, false, false, false] true run slot 73 [.ptr key 0, .int .i64 x, .int .i64 y, .int .i64 z] h = some (.panic ch, setK h key o') := by
  unfold opened
  have e1 : sealM (sealA 20) [true, false, false, false] h [.ptr key 0, .int .i64 x, .int .i64 y, .int .i64 z] = some ([.ptr key 0, .int .i64 x, .int .i64 y, .int .i64 z], h) := by simp [sealM, sealA, AV.pure]
  rw [e1]
  simp only
  rw [lent h key o hk hl ko ro, hr]
  simp only [backR, hv, if_true]
  rw [backK h hf key o' slot [] rfl hq hl' ko' ro']
def panA : Option (AExit × St) → Option (List AV × Option AObj)
  | some (.panic ch, s) => some (ch, lookK s.h (0, 0, 0))
  | _ => none
theorem panA_eq {x : Option (AExit × St)} {ch o} (h : panA x = some (ch, o)) : ∃ s, x = some (.panic ch, s) ∧ lookK s.h (0, 0, 0) = o := by
  unfold panA at h
  split at h
  · cases h; exact ⟨_, rfl, rfl⟩
  · cases h
theorem s_retp2 {E : Env} {call : CallF} {lvl n : Nat} {d r} {t : Fr} {h g : Heap} {ch} : nxc E call lvl n d r ⟨t, h⟩ (some (.panic ch, g)) = some (.panic ch, ⟨t, g⟩) := rfl
def lpE : Code := lp c73 0
abbrev St0 (fl : Bool) (b : List Int) (cp : Option Nat) (c n d m : Int) (a e : Nat) : St := ⟨[(0, .ptr (0, 0, 0) 0), (1, .int .i64 (a : Int)), (2, .int .i64 (e : Int)), (3, .int .i64 d), (8, .ptr (1, 8, 0) 0), (14, .ptr (1, 14, 0) 0)], [((0, 0, 0), R fl b cp m), ((1, 8, 0), bx Z), ((1, 14, 0), bx [.int .u8 c, .bool true, .int .u32 n, .sl true [] (some 0), .sl true [] (some 0)])]⟩
abbrev StR (fl : Bool) (b : List Int) (cp : Option Nat) (c n d m : Int) (a e : Nat) (l : List El) (g : Nat) : St := ⟨[(0, .ptr (0, 0, 0) 0), (1, .int .i64 (a : Int)), (2, .int .i64 (e : Int)), (3, .int .i64 d), (8, .ptr (1, 8, 0) 0), (14, .ptr (1, 14, 0) 0)], [((0, 0, 0), R fl b cp m), ((1, 8, 0), bx Z), ((1, 14, 0), bx [.int .u8 c, .bool true, .int .u32 n, .sl true [] (some 0), .ref (1, 143, g) 0 l.length none]), ((1, 143, g), ⟨El.fl l, true, true, false, 5, true⟩)]⟩
abbrev OkC (q : Nat) (fl : Bool) (b : List Int) (cp : Option Nat) (a e : Nat) (d m : Int) (v : AV) (m' : Int) : Prop := ∀ h, lookK h (0, 0, 0) = some (R fl b cp m) → opened [true, false, false, false] true (aRun E q) 136 73 [.ptr (0, 0, 0) 0, .int .i64 (a : Int), .int .i64 (e : Int), .int .i64 d] h = some (.ret v, setK h (0, 0, 0) (R fl b cp m'))
abbrev BadC (q : Nat) (fl : Bool) (b : List Int) (cp : Option Nat) (a e : Nat) (d m : Int) (x y : Int) (m' : Int) : Prop := ∀ h, lookK h (0, 0, 0) = some (R fl b cp m) → opened [true, false, false, false] true (aRun E q) 136 73 [.ptr (0, 0, 0) 0, .int .i64 (a : Int), .int .i64 (e : Int), .int .i64 d] h = some (.panic [flt x y], setK h (0, 0, 0) (R fl b cp m'))
theorem go0 (q k1 : Nat) (fl b cp) (c n d m : Int) (a e a' : Nat) (m' : Int) (x : El) (hae : a < e) (d0 : 0 ≤ d) (d1 : d ≤ 100) (he : e ≤ 100000000) (C : OkC q fl b cp a e (d + 1) m (.tup [x.av, .int .i64 (a' : Int)]) m') :
    rndO fn73 lpE q k1 (St0 fl b cp c n d m a e) = some (.normal, StR fl b cp c n d m' a' e [x] 0) := by
  have w := w64' (d + 1) (by omega) (by omega)
  have h1 : (a : Int) < e := by omega
  rw [El.av_eq] at C
  simp [lpE, lp, lps, c73, w, h1, hae, C, El.fl_one]
theorem goR (q k1 : Nat) (fl b cp) (c n d m : Int) (a e a' : Nat) (m' : Int) (l : List El) (g : Nat) (x : El) (hae : a < e) (d0 : 0 ≤ d) (d1 : d ≤ 100) (he : e ≤ 100000000) (hl : l.length ≤ 100000000) (C : OkC q fl b cp a e (d + 1) m (.tup [x.av, .int .i64 (a' : Int)]) m') :
    rndO fn73 lpE q k1 (StR fl b cp c n d m a e l g) = some (.normal, StR fl b cp c n d m' a' e (l ++ [x]) (g + 1)) := by
  have w := w64' (d + 1) (by omega) (by omega)
  have h1 : (a : Int) < e := by omega
  rw [El.av_eq] at C
  have cs5 : (l.length + 1) * 56 ≤ 70368744177664 := by omega
  have f1 := El.fl_len l
  have f2 := El.fl_keys l
  have f3 : (El.fl l).take (l.length * 5) = El.fl l := by rw [El.fl_take, List.take_length]
  have f4 := El.fl_pure l
  have f5 := El.fl_scal l
  simp [lpE, lp, lps, c73, w, h1, hae, C, El.fl_snoc, f1, f2, f3, f4, f5, cs5, El.fl_keysr]
theorem bad0 (q k1 : Nat) (fl b cp) (c n d m : Int) (a e : Nat) (x y m' : Int) (hae : a < e) (d0 : 0 ≤ d) (d1 : d ≤ 100) (he : e ≤ 100000000) (C : BadC q fl b cp a e (d + 1) m x y m') :
    panA (rndO fn73 lpE q k1 (St0 fl b cp c n d m a e)) = some ([flt x y], some (R fl b cp m')) := by
  have w := w64' (d + 1) (by omega) (by omega)
  have h1 : (a : Int) < e := by omega
  simp [lpE, lp, lps, c73, w, h1, hae, C, panA, s_retp2]
theorem badR (q k1 : Nat) (fl b cp) (c n d m : Int) (a e : Nat) (l : List El) (g : Nat) (x y m' : Int) (hae : a < e) (d0 : 0 ≤ d) (d1 : d ≤ 100) (he : e ≤ 100000000) (C : BadC q fl b cp a e (d + 1) m x y m') :
    panA (rndO fn73 lpE q k1 (StR fl b cp c n d m a e l g)) = some ([flt x y], some (R fl b cp m')) := by
  have w := w64' (d + 1) (by omega) (by omega)
  have h1 : (a : Int) < e := by omega
  have f2 := El.fl_keys l
  simp [lpE, lp, lps, c73, w, h1, hae, C, panA, s_retp2, f2]
theorem last0 (q k1 : Nat) (fl b cp) (c n d m : Int) (a e : Nat) (hae : e ≤ a) :
    rndO fn73 lpE q k1 (St0 fl b cp c n d m a e) = some (.exit 2, ⟨[(0, .ptr (0, 0, 0) 0), (1, .int .i64 (a : Int)), (2, .int .i64 (e : Int)), (3, .int .i64 d), (8, .ptr (1, 8, 0) 0), (14, .ptr (1, 14, 0) 0), (129, .bool false)], (St0 fl b cp c n d m a e).h⟩) := by
  have h1 : ¬ (a : Int) < e := by omega
  have h2 : ¬ a < e := by omega
  simp [lpE, lp, lps, c73, h1, h2, hae]
theorem lastR (q k1 : Nat) (fl b cp) (c n d m : Int) (a e : Nat) (l : List El) (g : Nat) (hae : e ≤ a) :
    rndO fn73 lpE q k1 (StR fl b cp c n d m a e l g) = some (.exit 2, ⟨[(0, .ptr (0, 0, 0) 0), (1, .int .i64 (a : Int)), (2, .int .i64 (e : Int)), (3, .int .i64 d), (8, .ptr (1, 8, 0) 0), (14, .ptr (1, 14, 0) 0), (129, .bool false)], (StR fl b cp c n d m a e l g).h⟩) := by
  have h1 : ¬ (a : Int) < e := by omega
  have h2 : ¬ a < e := by omega
  have f2 := El.fl_keys l
  simp [lpE, lp, lps, c73, h1, h2, hae, f2]
end E56

end
