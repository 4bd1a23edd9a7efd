/- The evaluator: own work, no conditions. -/
import Derived.Test.YtbiildmljbcmeaaDoorB18
import Derived.ChangeKeysEq
import Derived.Laws.StructEq
/- Flat values of a type (whole numbers and bools, in structs and arrays) are compared cell by cell. Own work, no conditions. -/
set_option linter.unusedVariables false
set_option linter.unusedSimpArgs false
namespace Ab
open Go
def flatFs (f:TypeId → Option (List Bool)):Nat → List Field → Option (List Bool)
  | _,[] => some []
  | o,x :: r => if x.name ≠ "_" ∧ x.offset=o then (f x.type).bind fun l => (flatFs f (o + l.length) r).map (l ++ ·) else none
def flatB (P:Program):Nat → TypeId → Option (List Bool)
  | 0,_ => none
  | d + 1,t => match P.underlying t,P.info? t with
    | some (.int _),some i => if i.size=1 then some [false] else none
    | some .bool,some i => if i.size=1 then some [true] else none
    | some (.struct fs),some i => if P.stoodInHeld t then none else (flatFs (flatB P d) 0 fs.toList).bind fun l => if i.size=l.length then some l else none
    | some (.array n e),some i => (flatB P d e).bind fun l => if i.size=n * l.length then some (List.replicate n l).flatten else none
    | _,_ => none
def shp:List AV → Option (List Bool)
  | [] => some []
  | .int .. :: r => (shp r).map (false :: ·)
  | .bool _ :: r => (shp r).map (true :: ·)
  | _ :: _ => none
def valF (P:Program) (t:TypeId) (ws:List Value):Value :=
  match P.underlying t with
  | some (.struct _) | some (.array ..) => .agg ⟨ws⟩
  | _ => ws.headD (.pointer none)
theorem flatB_size {P:Program}:∀ {d t l},flatB P d t=some l → P.cellsOf t=l.length ∧ ∃ i,P.info? t=some i
  | 0,t,l,h => by simp [flatB] at h
  | d + 1,t,l,h => by
    unfold flatB at h
    unfold Program.cellsOf
    split at h
    · rename_i i _ hi
      split at h
      · rename_i hs; cases h; rw [hi]; exact ⟨by simpa using hs,i,rfl⟩
      · cases h
    · rename_i i _ hi
      split at h
      · rename_i hs; cases h; rw [hi]; exact ⟨by simpa using hs,i,rfl⟩
      · cases h
    · rename_i fs i _ hi
      split at h
      · cases h
      · cases e:flatFs (flatB P d) 0 fs.toList with
        | none => rw [e] at h; cases h
        | some l' =>
          rw [e] at h
          simp only [Option.bind_some] at h
          split at h
          · rename_i hs; cases h; rw [hi]; exact ⟨by simpa using hs,i,rfl⟩
          · cases h
    · rename_i n e i _ hi
      cases he:flatB P d e with
      | none => rw [he] at h; cases h
      | some l' =>
        rw [he] at h
        simp only [Option.bind_some] at h
        split at h
        · rename_i hs; cases h; rw [hi]; refine ⟨?_,i,rfl⟩; simpa using hs
        · cases h
    · cases h
theorem shp_len:∀ {cs l},shp cs=some l → cs.length=l.length
  | [],l,h => by simp [shp] at h; subst h; rfl
  | x :: r,l,h => by
    cases x <;> simp only [shp,reduceCtorEq] at h
    · obtain ⟨l',h1,rfl⟩:=Option.map_eq_some_iff.1 h; simp [shp_len h1]
    · obtain ⟨l',h1,rfl⟩:=Option.map_eq_some_iff.1 h; simp [shp_len h1]
theorem shp_app:∀ {cs l1 l2},shp cs=some (l1 ++ l2) → shp (cs.take l1.length)=some l1 ∧ shp (cs.drop l1.length)=some l2
  | cs,[],l2,h => ⟨by simp [shp],by simpa using h⟩
  | [],b :: l1,l2,h => by simp [shp] at h
  | x :: r,b :: l1,l2,h => by
    cases x <;> simp only [shp,reduceCtorEq] at h
    · obtain ⟨l',h1,h2⟩:=Option.map_eq_some_iff.1 h
      simp only [List.cons_append,List.cons.injEq] at h2
      obtain ⟨rfl,rfl⟩:=h2
      obtain ⟨a1,a2⟩:=shp_app h1
      exact ⟨by simp [shp,a1],by simpa using a2⟩
    · obtain ⟨l',h1,h2⟩:=Option.map_eq_some_iff.1 h
      simp only [List.cons_append,List.cons.injEq] at h2
      obtain ⟨rfl,rfl⟩:=h2
      obtain ⟨a1,a2⟩:=shp_app h1
      exact ⟨by simp [shp,a1],by simpa using a2⟩
theorem eqL_len:∀ {cs ds b},eqL cs ds=some b → cs.length=ds.length
  | [],[],b,_ => rfl
  | [],_ :: _,b,h => by simp [eqL] at h
  | _ :: _,[],b,h => by simp [eqL] at h
  | x :: cs,y :: ds,b,h => by
    simp only [eqL] at h
    split at h
    · rename_i h1 h2; simp [eqL_len h2]
    · cases h
theorem eqL_app:∀ {n:Nat} {cs ds:List AV} {b},n ≤ cs.length → eqL cs ds=some b → ∃ b1 b2,eqL (cs.take n) (ds.take n)=some b1 ∧ eqL (cs.drop n) (ds.drop n)=some b2 ∧ b=(b1 && b2)
  | 0,cs,ds,b,_,h => ⟨true,b,by simp [eqL],by simpa using h,by simp⟩
  | n + 1,[],ds,b,hn,h => by simp at hn
  | n + 1,x :: cs,[],b,hn,h => by simp [eqL] at h
  | n + 1,x :: cs,y :: ds,b,hn,h => by
    simp only [eqL] at h
    split at h
    · rename_i p q h1 h2
      cases h
      obtain ⟨b1,b2,e1,e2,rfl⟩:=eqL_app (n:=n) (by simpa using hn) h2
      exact ⟨p && b1,b2,by simp [eqL,h1,e1],by simpa using e2,by simp [Bool.and_assoc]⟩
    · cases h
theorem run_part_flat {P:Program} {d e l off} {ws:List Value} (w:World) (hl:flatB P d e=some l) (hi:off + l.length ≤ ws.length) :
    (part e ⟨ws⟩ off).run P w=.ok (valF P e ((ws.drop off).take l.length)) w:=by
  obtain ⟨hs,i,hinf⟩:=flatB_size hl
  have hsz:=run_sizeOf w hinf
  rw [hs] at hsz
  have agg:(⟨ws⟩:Array Value).extract off (off + l.length)=⟨(ws.drop off).take l.length⟩:=by
    apply Array.ext'
    rw [Array.toList_extract]
    simp [List.extract]
  cases d with
  | zero => simp [flatB] at hl
  | succ d =>
    have hl0:=hl
    unfold flatB at hl
    split at hl
    · rename_i hu _
      split at hl
      case isFalse => cases hl
      cases hl
      have hlt:off < ws.length:=by simp at hi; omega
      have h1:(ws.drop off).take 1=[ws[off]]:=by rw [List.drop_eq_getElem_cons hlt]; rfl
      simp [part,isAgg,run_underlying hu,valF,hu,hlt,h1]
    · rename_i hu _
      split at hl
      case isFalse => cases hl
      cases hl
      have hlt:off < ws.length:=by simp at hi; omega
      have h1:(ws.drop off).take 1=[ws[off]]:=by rw [List.drop_eq_getElem_cons hlt]; rfl
      simp [part,isAgg,run_underlying hu,valF,hu,hlt,h1]
    · rename_i hu _
      simp [part,isAgg,run_underlying hu,valF,hu,hsz,agg]
    · rename_i hu _
      simp [part,isAgg,run_underlying hu,valF,hu,hsz,agg]
    · cases hl
def EqF (P:Program) (k:Nat) (t:TypeId) (l:List Bool):Prop :=
  ∀ (c:Cx) cs ds vs us b (w:World),shp cs=some l → eqL cs ds=some b → RVs c cs vs → RVs c ds us → (Op.equalIn k t (valF P t vs) (valF P t us)).run P w=.ok b w
theorem eqFields_flat {P:Program} {d k:Nat} (IH:∀ t l,flatB P d t=some l → EqF P k t l) {c:Cx} (w:World) {xs ys:List Value}:∀ (fs:List Field) (off:Nat) l cs ds vs us b,flatFs (flatB P d) off fs=some l → off ≤ xs.length → off ≤ ys.length → vs=xs.drop off → us=ys.drop off → shp cs=some l → eqL cs ds=some b → RVs c cs vs → RVs c ds us →
    (Op.eqFields k ⟨xs⟩ ⟨ys⟩ fs).run P w=.ok b w
  | [],off,l,cs,ds,vs,us,b,h,_,_,_,_,hsh,he,hv,hu => by
    simp [flatFs] at h; subst h
    have:cs=[]:=List.eq_nil_of_length_eq_zero (shp_len hsh)
    subst this
    cases ds with
    | nil => simp [eqL] at he; subst he; simp [Op.eqFields]
    | cons _ _ => simp [eqL] at he
  | f :: fs,off,l,cs,ds,vs,us,b,h,ho1,ho2,hvs,hus,hsh,he,hv,hu => by
    simp only [flatFs] at h
    split at h
    case isFalse => cases h
    rename_i hn
    cases hf:flatB P d f.type with
    | none => rw [hf] at h; cases h
    | some l1 =>
    rw [hf] at h
    simp only [Option.bind_some] at h
    obtain ⟨l2,h2,rfl⟩:=Option.map_eq_some_iff.1 h
    obtain ⟨s1,s2⟩:=shp_app hsh
    have hlen:=shp_len hsh
    simp only [List.length_append] at hlen
    obtain ⟨b1,b2,e1,e2,rfl⟩:=eqL_app (n:=l1.length) (by omega) he
    have hvl:=hv.length
    have hul:=hu.length
    have hdl:=eqL_len he
    have hx':cs.length=xs.length - off:=by rw [hvl,hvs,List.length_drop]
    have hy':ds.length=ys.length - off:=by rw [hul,hus,List.length_drop]
    have p1:=run_part_flat (ws:=xs) (off:=f.offset) w hf (by rw [hn.2]; omega)
    have p2:=run_part_flat (ws:=ys) (off:=f.offset) w hf (by rw [hn.2]; omega)
    rw [hn.2,← hvs] at p1
    rw [hn.2,← hus] at p2
    have q:=IH f.type l1 hf c _ _ _ _ b1 w s1 e1 (hv.take l1.length) (hu.take l1.length)
    have r:=eqFields_flat (xs:=xs) (ys:=ys) IH w fs (off + l1.length) l2 (cs.drop l1.length) (ds.drop l1.length) (vs.drop l1.length) (us.drop l1.length) b2 h2 (by omega) (by omega) (by rw [hvs,List.drop_drop]) (by rw [hus,List.drop_drop]) s2 e2 (hv.drop _) (hu.drop _)
    have p1':(part f.type ⟨xs⟩ f.offset).run P w=.ok (valF P f.type (vs.take l1.length)) w:=by rw [hn.2]; exact p1
    have p2':(part f.type ⟨ys⟩ f.offset).run P w=.ok (valF P f.type (us.take l1.length)) w:=by rw [hn.2]; exact p2
    simp only [Op.eqFields,hn.1,ne_eq,not_false_eq_true,if_true,Sem.run_bind,p1',p2',q,Result.andThen_ok]
    cases b1 with
    | false => simp
    | true => simpa using r
theorem eqItems_flat {P:Program} {d k:Nat} (IH:∀ t l,flatB P d t=some l → EqF P k t l) {c:Cx} (w:World) {xs ys:List Value} {e:TypeId} {l1:List Bool} (hf:flatB P d e=some l1):∀ (n o:Nat) cs ds vs us b,o * l1.length ≤ xs.length → o * l1.length ≤ ys.length → vs=xs.drop (o * l1.length) → us=ys.drop (o * l1.length) → shp cs=some (List.replicate n l1).flatten → eqL cs ds=some b → RVs c cs vs → RVs c ds us →
    (Op.eqItems k e (P.cellsOf e) ⟨xs⟩ ⟨ys⟩ (List.range' o n)).run P w=.ok b w
  | 0,o,cs,ds,vs,us,b,_,_,_,_,hsh,he,hv,hu => by
    have:cs=[]:=List.eq_nil_of_length_eq_zero (by simpa using shp_len hsh)
    subst this
    cases ds with
    | nil => simp [eqL] at he; subst he; simp [Op.eqItems]
    | cons _ _ => simp [eqL] at he
  | n + 1,o,cs,ds,vs,us,b,ho1,ho2,hvs,hus,hsh,he,hv,hu => by
    rw [List.replicate_succ,List.flatten_cons] at hsh
    obtain ⟨s1,s2⟩:=shp_app hsh
    have hlen:=shp_len hsh
    simp only [List.length_append] at hlen
    obtain ⟨b1,b2,e1,e2,rfl⟩:=eqL_app (n:=l1.length) (by omega) he
    have hvl:=hv.length
    have hul:=hu.length
    have hdl:=eqL_len he
    have hx':cs.length=xs.length - o * l1.length:=by rw [hvl,hvs,List.length_drop]
    have hy':ds.length=ys.length - o * l1.length:=by rw [hul,hus,List.length_drop]
    have p1:=run_part_flat (ws:=xs) (off:=o * l1.length) w hf (by omega)
    have p2:=run_part_flat (ws:=ys) (off:=o * l1.length) w hf (by omega)
    rw [← hvs] at p1
    rw [← hus] at p2
    have q:=IH e l1 hf c _ _ _ _ b1 w s1 e1 (hv.take l1.length) (hu.take l1.length)
    have hoo:(o + 1) * l1.length=o * l1.length + l1.length:=by rw [Nat.add_mul,Nat.one_mul]
    have r:=eqItems_flat (xs:=xs) (ys:=ys) IH w hf n (o + 1) (cs.drop l1.length) (ds.drop l1.length) (vs.drop l1.length) (us.drop l1.length) b2 (by omega) (by omega) (by rw [hvs,List.drop_drop,hoo]) (by rw [hus,List.drop_drop,hoo]) s2 e2 (hv.drop _) (hu.drop _)
    have hc:P.cellsOf e=l1.length:=(flatB_size hf).1
    rw [List.range'_succ]
    rw [hc] at r ⊢
    simp only [Op.eqItems,Sem.run_bind,p1,p2,q,Result.andThen_ok]
    cases b1 with
    | false => simp
    | true => simpa using r
theorem eq_flat {P:Program}:∀ d k t l,flatB P d t=some l → EqF P (d + k) t l
  | 0,k,t,l,h => by simp [flatB] at h
  | d + 1,k,t,l,h => by
    intro c cs ds vs us b w hsh he hv hu
    have IH:∀ t l,flatB P d t=some l → EqF P (d + k) t l:=fun t l => eq_flat d k t l
    rw [show d + 1 + k=(d + k) + 1 by omega]
    unfold flatB at h
    split at h
    · rename_i kk i hty _
      split at h
      case isFalse => cases h
      cases h
      cases cs with
      | nil => simp [shp] at hsh
      | cons x r =>
        have hr:r=[]:=by
          have:=shp_len hsh
          exact List.eq_nil_of_length_eq_zero (by simpa using this)
        subst hr
        cases ds with
        | nil => simp [eqL] at he
        | cons y r2 =>
          have:r2=[]:=List.eq_nil_of_length_eq_zero (by have:=eqL_len he; simpa using this.symm)
          subst this
          cases hv with
          | cons _ v _ _ hv1 hv2 =>
          cases hv2
          cases hu with
          | cons _ u _ _ hu1 hu2 =>
          cases hu2
          cases x <;> simp only [shp,reduceCtorEq] at hsh
          · cases y <;> simp only [eqL,eq1,reduceCtorEq] at he
            split at he
            case h_2 => cases he
            rename_i p q h1 h2
            split at h1
            case isFalse => cases h1
            rename_i hkk
            cases h1
            cases he
            cases h2
            subst hkk
            cases hv1; cases hu1
            simp [valF,hty,run_equalIn_int w (d + k) t _ _ _ _ hty]
          · simp [shp] at hsh
    · rename_i i hty _
      split at h
      case isFalse => cases h
      cases h
      cases cs with
      | nil => simp [shp] at hsh
      | cons x r =>
        have hr:r=[]:=by
          have:=shp_len hsh
          exact List.eq_nil_of_length_eq_zero (by simpa using this)
        subst hr
        cases ds with
        | nil => simp [eqL] at he
        | cons y r2 =>
          have:r2=[]:=List.eq_nil_of_length_eq_zero (by have:=eqL_len he; simpa using this.symm)
          subst this
          cases hv with
          | cons _ v _ _ hv1 hv2 =>
          cases hv2
          cases hu with
          | cons _ u _ _ hu1 hu2 =>
          cases hu2
          cases x <;> simp only [shp,reduceCtorEq] at hsh
          · simp [shp] at hsh
          · cases y <;> simp only [eqL,eq1,reduceCtorEq] at he
            cases he
            cases hv1; cases hu1
            simp [valF,hty,run_equalIn_bool w (d + k) t _ _ hty]
    · rename_i fs i hty _
      split at h
      · cases h
      rename_i hst
      cases e:flatFs (flatB P d) 0 fs.toList with
      | none => rw [e] at h; cases h
      | some l' =>
      rw [e] at h
      simp only [Option.bind_some] at h
      split at h
      case isFalse => cases h
      cases h
      have hfo:P.fieldsOf t=fs:=by simp [Program.fieldsOf,hty]
      have:=run_equalIn_struct w (d + k) t ⟨vs⟩ ⟨us⟩ (by rw [hfo]; exact hty) (by simpa using hst)
      rw [hfo] at this
      have hva:∀ ws,valF P t ws=.agg ⟨ws⟩:=fun ws => by simp [valF,hty]
      rw [hva,hva,this]
      exact eqFields_flat (xs:=vs) (ys:=us) IH w fs.toList 0 l cs ds vs us b e (by simp) (by simp) (by simp) (by simp) hsh he hv hu
    · rename_i n e i hty _
      cases hf:flatB P d e with
      | none => rw [hf] at h; cases h
      | some l1 =>
      rw [hf] at h
      simp only [Option.bind_some] at h
      split at h
      case isFalse => cases h
      cases h
      obtain ⟨_,ie,hie⟩:=flatB_size hf
      have hva:∀ ws,valF P t ws=.agg ⟨ws⟩:=fun ws => by simp [valF,hty]
      rw [hva,hva,run_equalIn_array w (d + k) ⟨vs⟩ ⟨us⟩ hty hie,List.range_eq_range']
      exact eqItems_flat (xs:=vs) (ys:=us) IH w hf n 0 cs ds vs us b (by simp) (by simp) (by simp) (by simp) hsh he hv hu
    · cases h
theorem fitZ_shp:∀ {z cs l},fitZ z cs=true → shp z=some l → shp cs=some l
  | [],[],l,_,h => h
  | [],_ :: _,l,h,_ => by simp [fitZ] at h
  | .int .. :: z,.int .. :: c,l,h,hz => by
    simp only [fitZ] at h
    simp only [shp] at hz ⊢
    obtain ⟨l',h1,rfl⟩:=Option.map_eq_some_iff.1 hz
    rw [fitZ_shp h h1]; rfl
  | .bool _ :: z,.bool _ :: c,l,h,hz => by
    simp only [fitZ] at h
    simp only [shp] at hz ⊢
    obtain ⟨l',h1,rfl⟩:=Option.map_eq_some_iff.1 hz
    rw [fitZ_shp h h1]; rfl
  | x :: z,[],l,h,_ => by cases x <;> simp [fitZ] at h
  | x :: z,y :: c,l,h,hz => by
    cases x <;> cases y <;> simp_all [fitZ,shp]
    all_goals
      obtain ⟨l',h1,rfl⟩:=hz
      exact ⟨l',fitZ_shp h h1,rfl⟩
theorem CmpOK.of {P:Program} {t:TypeId} {z:List AV} {l:List Bool} (d:Nat) (hd:d ≤ 10000) (h1:flatB P d t=some l) (h2:shp z=some l) (h3:(match P.underlying t with | some (.struct _) | some (.array ..) => true | _ => false)=true) (h4:P.eqGuardType P.depth t=false):CmpOK P t z:=by
  intro c cs ds vs us b w ox oy hz he hv hu
  have key:=eq_flat d (10000 - d) t l h1 c cs ds vs us b w (fitZ_shp hz h2) he hv hu
  rw [show d + (10000 - d)=10000 by omega] at key
  have hva:∀ ws,valF P t ws=.agg ⟨ws⟩:=fun ws => by
    unfold valF
    split at h3
    · rfl
    · rfl
    · cases h3
  rw [hva,hva] at key
  constructor
  · simp only [Sem.run_bind,run_eqGuard_agg w .eql t ox oy ⟨vs⟩ ⟨us⟩ h4,Result.andThen_ok,run_eql_struct,key]
  · simp only [Sem.run_bind,run_eqGuard_agg w .neq t ox oy ⟨vs⟩ ⟨us⟩ h4,Result.andThen_ok,run_neq_struct,key]
end Ab
