/- Own work, no conditions. -/
import Derived.Test.YtbiildmljbcmeaaDoorOP
set_option maxRecDepth 20000
set_option linter.unusedSimpArgs false
set_option linter.unusedVariables false
set_option maxHeartbeats 16000000
section
open Ab Go
namespace OH
def step (ds:List Int) (v:Int) (s:Bool) (b:Int):Int ⊕ (List Int × Int × Bool) :=
  if s=true ∧ ds.length=15 then .inl 3
  else if s=true ∧ b=128 then .inl 11
  else if 4294967295 < 128 * v + b % 128 then .inl 3
  else if b < 128 then .inr (ds ++ [128 * v + b % 128],0,true)
  else .inr (ds,128 * v + b % 128,false)
def run:List Int → List Int → Int → Bool → Int ⊕ (List Int × Int × Bool)
  | [],ds,v,s => .inr (ds,v,s)
  | b :: r,ds,v,s => match step ds v s b with
    | .inl e => .inl e
    | .inr (ds',v',s') => run r ds' v' s'
def arcs:List Int → List Int
  | [] => List.replicate 16 0
  | d :: r => min (d / 40) 2 :: (d - 40 * min (d / 40) 2) :: (r ++ List.replicate (14 - r.length) 0)
def get (bs:List Int):Int × List Int × Int :=
  if bs=[] then (0,List.replicate 16 0,7) else
  match run bs [] 0 true with
  | .inl e => (0,List.replicate 16 0,e)
  | .inr (ds,_,s) => if s=true then ((ds.length:Int) + 1,arcs ds,0) else (0,List.replicate 16 0,7)
def val:List Int → Int → Int
  | [],v => v
  | b :: r,v => val r (128 * v + b % 128)
theorem grp_of (p:List Int) (b:Int) (hp:∀ x ∈ p,128 ≤ x ∧ x < 256) (h0:∀ x,p.head? = some x → x ≠ 128) (b0:0 ≤ b) (b1:b < 128) (hv:val (p ++ [b]) 0 ≤ 4294967295):OG.grp (val (p ++ [b]) 0)=p ++ [b]:=by
  match p with
  | [] =>
    simp only [List.nil_append,val] at hv ⊢
    unfold OG.grp OG.top OG.oct
    simp
    rw [if_pos (by omega)]
    simp
    omega
  | [x] =>
    have q1:=hp x (by simp); have z:=h0 x rfl
    simp only [List.cons_append,List.nil_append,val] at hv ⊢
    unfold OG.grp OG.top OG.oct
    rw [if_neg (by omega),if_pos (by omega)]
    simp
    omega
  | [x,y] =>
    have q1:=hp x (by simp); have q2:=hp y (by simp); have z:=h0 x rfl
    simp only [List.cons_append,List.nil_append,val] at hv ⊢
    unfold OG.grp OG.top OG.oct
    rw [if_neg (by omega),if_neg (by omega),if_pos (by omega)]
    simp
    omega
  | [x,y,u] =>
    have q1:=hp x (by simp); have q2:=hp y (by simp); have q3:=hp u (by simp); have z:=h0 x rfl
    simp only [List.cons_append,List.nil_append,val] at hv ⊢
    unfold OG.grp OG.top OG.oct
    rw [if_neg (by omega),if_neg (by omega),if_neg (by omega),if_pos (by omega)]
    simp
    omega
  | [x,y,u,t] =>
    have q1:=hp x (by simp); have q2:=hp y (by simp); have q3:=hp u (by simp); have q4:=hp t (by simp); have z:=h0 x rfl
    simp only [List.cons_append,List.nil_append,val] at hv ⊢
    unfold OG.grp OG.top OG.oct
    rw [if_neg (by omega),if_neg (by omega),if_neg (by omega),if_neg (by omega)]
    simp
    omega
  | x :: y :: u :: t :: s :: r =>
    exfalso
    have q1:=hp x (by simp); have z:=h0 x rfl
    have mono:∀ (l:List Int) (v:Int),0 ≤ v → v ≤ val l v:=by
      intro l
      induction l with
      | nil => intro v _; exact Int.le_refl _
      | cons a l ih => intro v hv0; unfold val; have:=ih (128 * v + a % 128) (by omega); omega
    simp only [List.cons_append,val] at hv
    have q2:=hp y (by simp); have q3:=hp u (by simp); have q4:=hp t (by simp); have q5:=hp s (by simp)
    cases r with
    | nil =>
      simp only [List.nil_append,val] at hv
      omega
    | cons a r =>
      have:=mono (a :: r ++ [b]) (128 * (128 * (128 * (128 * (128 * 0 + x % 128) + y % 128) + u % 128) + t % 128) + s % 128) (by omega)
      simp only [List.cons_append] at this
      unfold val at this
      have m2:=mono (r ++ [b]) (128 * (128 * (128 * (128 * (128 * (128 * 0 + x % 128) + y % 128) + u % 128) + t % 128) + s % 128) + a % 128) (by omega)
      simp only [List.cons_append,val] at hv
      omega
theorem val_snoc:∀ (p:List Int) (b v:Int),val (p ++ [b]) v=128 * val p v + b % 128
  | [],b,v => rfl
  | a :: p,b,v => by rw [List.cons_append]; unfold val; rw [val_snoc p b]
theorem val_nn:∀ (p:List Int) (v:Int),0 ≤ v → 0 ≤ val p v
  | [],v,h => h
  | a :: p,v,h => by unfold val; exact val_nn p _ (by omega)
theorem run_ok:∀ (bs ds:List Int) (v:Int) (s:Bool) (p:List Int) (ds':List Int) (v':Int) (s':Bool),(∀ b ∈ bs,0 ≤ b ∧ b < 256) → (∀ d ∈ ds,0 ≤ d ∧ d ≤ 4294967295) → ds.length ≤ 15 → (p ≠ [] → ds.length < 15) →
    (∀ x ∈ p,128 ≤ x ∧ x < 256) → (∀ x,p.head? = some x → x ≠ 128) → v=val p 0 → (s=true ↔ p=[]) → run bs ds v s=.inr (ds',v',s') →
    ∃ p',ds.flatMap OG.grp ++ p ++ bs=ds'.flatMap OG.grp ++ p' ∧ (s'=true ↔ p'=[]) ∧ (∀ d ∈ ds',0 ≤ d ∧ d ≤ 4294967295) ∧ ds'.length ≤ 15
  | [],ds,v,s,p,ds',v',s',_,hd,hl,_,_,_,_,hs,h => by
    simp only [run] at h
    cases h
    exact ⟨p,by simp,hs,hd,hl⟩
  | b :: r,ds,v,s,p,ds',v',s',hb,hd,hl,hpl,hp,h0,hv,hs,h => by
    unfold run step at h
    have b0:=hb b (by simp)
    split at h
    case h_1 => cases h
    rename_i e1 ds1 v1 s1 e2
    split at e2
    · cases e2
    split at e2
    · cases e2
    split at e2
    · cases e2
    rename_i n1 n2 n3
    have hlt:ds.length < 15:=by
      by_cases e:p=[]
      · have:=hs.2 e
        have:¬ ds.length=15:=fun q => n1 ⟨this,q⟩
        omega
      · exact hpl e
    have hvs:val (p ++ [b]) 0=128 * v + b % 128:=by rw [val_snoc,hv]
    have hh:∀ x,(p ++ [b]).head? = some x → x ≠ 128:=by
      intro x hx
      cases p with
      | nil =>
        simp at hx
        subst hx
        exact fun q => n2 ⟨hs.2 rfl,q⟩
      | cons a p => exact h0 x (by simpa using hx)
    split at e2
    · rename_i hlow
      cases e2
      have hg:=grp_of p b hp h0 b0.1 hlow (by rw [hvs]; omega)
      rw [hvs] at hg
      have hnn:0 ≤ 128 * v + b % 128:=by rw [← hvs]; exact val_nn _ _ (Int.le_refl _)
      obtain ⟨p',q1,q2⟩:=run_ok r _ 0 true [] ds' v' s' (fun x hx => hb x (by simp [hx])) (fun d hd' => by
        rcases List.mem_append.1 hd' with hd' | hd'
        · exact hd d hd'
        · simp at hd'; subst hd'; omega) (by simp; omega) (fun e => absurd rfl e) (by simp) (by simp) rfl (by simp) h
      refine ⟨p',?_,q2⟩
      rw [← q1,List.flatMap_append,List.flatMap_cons,List.flatMap_nil,hg]
      simp
    · rename_i hhigh
      cases e2
      obtain ⟨p',q1,q2⟩:=run_ok r ds _ false (p ++ [b]) ds' v' s' (fun x hx => hb x (by simp [hx])) hd hl (fun _ => hlt) (fun x hx => by
        rcases List.mem_append.1 hx with hx | hx
        · exact hp x hx
        · simp at hx; subst hx; omega) hh hvs.symm (by simp) h
      exact ⟨p',by rw [← q1]; simp,q2⟩
theorem get_ok (bs:List Int) (hb:∀ b ∈ bs,0 ≤ b ∧ b < 256) (h:(get bs).2.2=0):OP.okB (get bs).1 (get bs).2.1=true ∧ OP.octs (get bs).1 (get bs).2.1=bs ∧ (get bs).2.1.length=16 ∧ (∀ x ∈ (get bs).2.1,0 ≤ x ∧ x < 4294967296) ∧ 2 ≤ (get bs).1 ∧ (get bs).1 ≤ 16:=by
  unfold get at h ⊢
  split
  · rename_i e; rw [if_pos e] at h; cases h
  rename_i hne
  rw [if_neg hne] at h
  have herr:∀ (bs ds:List Int) (v:Int) (s:Bool) (e:Int),run bs ds v s=.inl e → e ≠ 0:=by
    intro bs
    induction bs with
    | nil => intro ds v s e h; cases h
    | cons b r ih =>
      intro ds v s e h
      unfold run at h
      split at h
      · rename_i e1 e2
        cases h
        unfold step at e2
        split at e2
        · cases e2; decide
        split at e2
        · cases e2; decide
        split at e2
        · cases e2; decide
        split at e2 <;> cases e2
      · exact ih _ _ _ _ h
  cases hr:run bs [] 0 true with
  | inl e =>
    rw [hr] at h
    exact absurd h (herr _ _ _ _ _ hr)
  | inr q =>
    obtain ⟨ds,v,s⟩:=q
    rw [hr] at h
    simp only at h ⊢
    cases s with
    | false => cases h
    | true =>
      obtain ⟨p',q1,q2,q3,q4⟩:=run_ok bs [] 0 true [] ds v true hb (by simp) (by simp) (by simp) (by simp) (by simp) rfl (by simp) hr
      have hp':=q2.1 rfl
      subst hp'
      simp at q1
      rw [if_pos rfl]
      cases ds with
      | nil => exact absurd q1 hne
      | cons d r =>
        have d0:=q3 d (by simp)
        simp only [List.length_cons] at q4 ⊢
        have et:((((r.length + 1:Nat):Int) + 1).toNat)=r.length + 2:=by omega
        refine ⟨?_,?_,?_,?_,by omega,by omega⟩
        · unfold OP.okB arcs
          simp only [Bool.and_eq_true,decide_eq_true_eq,et]
          refine ⟨by omega,?_⟩
          rw [List.drop_succ_cons,List.drop_succ_cons,List.drop_left]
          simp
        · unfold OP.octs OP.subs arcs
          simp only [et]
          rw [show r.length + 2 - 2=r.length from rfl,List.take_left,show d - 40 * min (d / 40) 2 + 40 * min (d / 40) 2=d from by omega]
          exact q1.symm
        · unfold arcs
          simp
          omega
        · unfold arcs
          intro x hx
          simp only [List.mem_cons,List.mem_append,List.mem_replicate] at hx
          rcases hx with rfl | rfl | hx | ⟨_,rfl⟩
          · omega
          · omega
          · have:=q3 x (by simp [hx]); omega
          · omega
end OH
end
section
open Ab Go
namespace OH
theorem run_len:∀ (bs ds:List Int) (v:Int) (s:Bool) (ds':List Int) (v':Int) (s':Bool),ds.length ≤ 15 → (s=false → ds.length < 15) → run bs ds v s=.inr (ds',v',s') → ds'.length ≤ 15 ∧ (s'=false → ds'.length < 15)
  | [],ds,v,s,ds',v',s',h1,h2,h => by
    simp only [run] at h
    cases h
    exact ⟨h1,h2⟩
  | b :: r,ds,v,s,ds',v',s',h1,h2,h => by
    unfold run step at h
    split at h
    case h_1 => cases h
    rename_i e1 ds1 v1 s1 e2
    split at e2
    · cases e2
    rename_i n1
    split at e2
    · cases e2
    split at e2
    · cases e2
    have hlt:ds.length < 15:=by
      cases s with
      | false => exact h2 rfl
      | true =>
        have:¬ ds.length=15:=fun q => n1 ⟨rfl,q⟩
        omega
    split at e2
    · cases e2
      exact run_len r _ _ _ ds' v' s' (by simp; omega) (fun q => by cases q) h
    · cases e2
      exact run_len r ds _ _ ds' v' s' h1 (fun _ => hlt) h
theorem arcs_len (ds:List Int) (h:ds.length ≤ 15):(arcs ds).length=16:=by
  cases ds with
  | nil => rfl
  | cons d r =>
    unfold arcs
    simp only [List.length_cons] at h
    simp
    omega
theorem get_len (bs:List Int):(get bs).2.1.length=16:=by
  unfold get
  split
  · rfl
  · split
    · rfl
    · rename_i ds v s hr
      split
      · exact arcs_len ds (run_len bs [] 0 true ds v s (by simp) (by simp) hr).1
      · rfl
end OH
namespace OH
theorem run_ne:∀ (bs ds:List Int) (v:Int) (s:Bool) (ds':List Int) (v':Int) (s':Bool),(ds ≠ [] ∨ s=false) → run bs ds v s=.inr (ds',v',s') → ds' ≠ [] ∨ s'=false
  | [],ds,v,s,ds',v',s',h1,h => by
    simp only [run] at h
    cases h
    exact h1
  | b :: r,ds,v,s,ds',v',s',h1,h => by
    unfold run step at h
    split at h
    case h_1 => cases h
    rename_i e1 ds1 v1 s1 e2
    split at e2
    · cases e2
    split at e2
    · cases e2
    split at e2
    · cases e2
    split at e2
    · cases e2
      exact run_ne r _ _ _ ds' v' s' (.inl (by simp)) h
    · cases e2
      exact run_ne r ds _ _ ds' v' s' (.inr rfl) h
theorem run_ne' (bs ds:List Int) (v:Int) (s:Bool) (ds':List Int) (v':Int) (s':Bool) (hb:bs ≠ []) (h:run bs ds v s=.inr (ds',v',s')):ds' ≠ [] ∨ s'=false:=by
  cases bs with
  | nil => exact absurd rfl hb
  | cons b r =>
    unfold run step at h
    split at h
    case h_1 => cases h
    rename_i e1 ds1 v1 s1 e2
    split at e2
    · cases e2
    split at e2
    · cases e2
    split at e2
    · cases e2
    split at e2
    · cases e2
      exact run_ne r _ _ _ ds' v' s' (.inl (by simp)) h
    · cases e2
      exact run_ne r ds _ _ ds' v' s' (.inr rfl) h
end OH
end
