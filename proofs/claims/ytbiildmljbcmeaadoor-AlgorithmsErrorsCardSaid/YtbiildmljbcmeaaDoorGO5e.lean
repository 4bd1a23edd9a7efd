/- oids.Check, oids.Put: what is proved of them in the model stands in for them. No conditions. -/
import Derived.Test.YtbiildmljbcmeaaDoorGO4
import Derived.Test.YtbiildmljbcmeaaDoorB35e
open Ab Go
set_option maxRecDepth 20000
set_option linter.unusedSimpArgs false
set_option linter.unusedVariables false
set_option maxHeartbeats 8000000
namespace Go.Proofs
open Go.RowKit Go.Shelf
attribute [local go_sem] Oper.semAt_some
theorem GO5.put_bad (n:Nat) (hn:1 ≤ n) (m:Int) (x0 x1 x2 x3 x4 x5 x6 x7 x8 x9 x10 x11 x12 x13 x14 x15:Int) (w:World)
    (hck:∀ W,Below w.heap.size w W → CallsIn Fence.wide (n - 1) Tryd.prog 21 #[.agg #[.int .u8 m,.int .u32 x0,.int .u32 x1,.int .u32 x2,.int .u32 x3,.int .u32 x4,.int .u32 x5,.int .u32 x6,.int .u32 x7,.int .u32 x8,.int .u32 x9,.int .u32 x10,.int .u32 x11,.int .u32 x12,.int .u32 x13,.int .u32 x14,.int .u32 x15]] W fun e W' => e=.returned (.int .i64 1) ∧ Below W.heap.size W W') :
    CallsIn Fence.wide n Tryd.prog 117 #[.agg #[.int .u8 m,.int .u32 x0,.int .u32 x1,.int .u32 x2,.int .u32 x3,.int .u32 x4,.int .u32 x5,.int .u32 x6,.int .u32 x7,.int .u32 x8,.int .u32 x9,.int .u32 x10,.int .u32 x11,.int .u32 x12,.int .u32 x13,.int .u32 x14,.int .u32 x15]] w fun e W' => e=.returned (.tuple #[.slice none 0 0,.int .i64 1]) ∧ Below w.heap.size w W':=by
  refine callsIn_of_wp Tryd.func117 rfl trivial ?_ rfl
  simp only [Tryd.ntmps117,List.size_toArray,List.length_cons,List.length_nil,Nat.reduceAdd,Nat.reduceSub,Array.replicate_succ,Array.replicate_zero,List.push_toArray,List.append_toArray,List.nil_append,List.cons_append]
  gi_wp2_with (refine ⟨trivial,?_⟩; gi_at_call 21; refine (hck _ ((Below.refl _ w).alloc (Nat.le_refl _) _)).mono ?_; rintro e W2 ⟨rfl,hB2⟩)
  refine bodyPost_ret (results_tmp2 rfl _ _ _) rfl ?_
  exact ⟨rfl,((Below.refl _ w).alloc (Nat.le_refl _) _).trans (hB2.mono (by simp))⟩
end Go.Proofs
namespace GO5
theorem ints_eq:∀ (l:List AV) (xs:List Int),OP.ints l=some xs → l=xs.map (AV.int .u32) ∧ ∀ x ∈ xs,0 ≤ x ∧ x < 4294967296
  | [],xs,h => by simp [OP.ints] at h; subst h; simp
  | a :: l,xs,h => by
    unfold OP.ints at h
    split at h
    · cases ‹a :: l=[]›
    · rename_i x r e
      injection e with e1 e2
      subst e1; subst e2
      split at h
      case isFalse => cases h
      rename_i hb
      cases hq:OP.ints l with
      | none => rw [hq] at h; cases h
      | some ys =>
        rw [hq] at h
        cases h
        obtain ⟨h1,h2⟩:=ints_eq l ys hq
        refine ⟨by rw [h1]; rfl,fun z hz => ?_⟩
        rcases List.mem_cons.1 hz with rfl | hz
        · exact hb
        · exact h2 z hz
    · cases h
theorem rvs_ints {c:Cx}:∀ (xs:List Int) (ws:List Value),RVs c (xs.map (AV.int .u32)) ws → ws=xs.map (Value.int .u32)
  | [],ws,h => by cases h; rfl
  | x :: xs,ws,h => by
    cases h with
    | cons _ v _ vs h0 h1 =>
      cases h0
      rw [rvs_ints xs vs h1]
      rfl
theorem vals_of {c:Cx} {n:Int} {xs:List Int} {vals:List Value} (h:RVs c [.agg (.int .u8 n :: xs.map (AV.int .u32))] vals):vals=[.agg (Value.int .u8 n :: xs.map (Value.int .u32)).toArray]:=by
  cases h with
  | cons _ v0 _ vs h0 h1 =>
    cases h1
    cases h0 with
    | agg _ ws h2 _ =>
      cases h2 with
      | cons _ _ _ _ a1 h3 =>
        cases a1
        rw [rvs_ints xs _ h3]
theorem grown {base:Nat} {C:Cx} (H:HR base C) {w':World} (bel:Go.RowKit.Below C.w.heap.size C.w w') (g:Nat) (hg:C.w.heap.size ≤ g) (gl:g < w'.heap.size):HR base ⟨w',fun b => C.Rd b ∨ b=g,C.m,C.h⟩ ∧ Ext base C ⟨w',fun b => C.Rd b ∨ b=g,C.m,C.h⟩:=by
  let c':Cx:=⟨w',fun b => C.Rd b ∨ b=g,C.m,C.h⟩
  have ext:Ext base C c':={
    os:=bel.os,tape:=bel.tape,output:=bel.output,size:=bel.size
    frame:=fun b hb _ => bel.block b hb
    rd:=fun b hb => .inl hb
    vk:=fun k hk => ⟨hk,rfl⟩
    newrd:=fun b hb => hb.elim .inl fun e => .inr (.inl (by omega))
    newmut:=fun b hb => .inl hb }
  have sz:∀ k o,lookK C.h k=some o → o.live=true → C.mu k < C.w.heap.size:=fun k o hk hl => by
    obtain ⟨arr,e,fr,q,_⟩:=H.obj k o hk hl
    exact (Array.getElem?_eq_some_iff.1 q).1
  refine ⟨?_,ext⟩
  exact {
    obj:=fun k o hk hl => by
      obtain ⟨arr,e,fr,q1,q2,q3,q4,q5,q6⟩:=H.obj k o hk hl
      refine ⟨arr,e,fr,(bel.block _ (sz k o hk hl)).trans q1,q2,q3,q4,q5,fun i x hx => ?_⟩
      obtain ⟨v,r1,r2,r3⟩:=q6 i x hx
      exact ⟨v,r1,ext.rv H r2,r3⟩
    mt:=fun k o hk hl hm => ⟨fun hb => hb.elim (H.mt k o hk hl hm).1 fun e => by have:=sz k o hk hl; simp only [Cx.mu,c'] at e this; omega,(H.mt k o hk hl hm).2⟩
    sld:=fun k o hk hl hm => .inl (H.sld k o hk hl hm)
    inj:=H.inj
    rd:=fun b hb => hb.elim (fun q => Nat.lt_of_lt_of_le (H.rd b q) bel.size) fun e => e ▸ gl }
theorem grown0 {base:Nat} {C:Cx} (H:HR base C) {w':World} (bel:Go.RowKit.Below C.w.heap.size C.w w'):HR base ⟨w',C.Rd,C.m,C.h⟩ ∧ Ext base C ⟨w',C.Rd,C.m,C.h⟩:=by
  let c':Cx:=⟨w',C.Rd,C.m,C.h⟩
  have ext:Ext base C c':={
    os:=bel.os,tape:=bel.tape,output:=bel.output,size:=bel.size
    frame:=fun b hb _ => bel.block b hb
    rd:=fun b hb => hb
    vk:=fun k hk => ⟨hk,rfl⟩
    newrd:=fun b hb => .inl hb
    newmut:=fun b hb => .inl hb }
  have sz:∀ k o,lookK C.h k=some o → o.live=true → C.mu k < C.w.heap.size:=fun k o hk hl => by
    obtain ⟨arr,e,fr,q,_⟩:=H.obj k o hk hl
    exact (Array.getElem?_eq_some_iff.1 q).1
  refine ⟨?_,ext⟩
  exact {
    obj:=fun k o hk hl => by
      obtain ⟨arr,e,fr,q1,q2,q3,q4,q5,q6⟩:=H.obj k o hk hl
      refine ⟨arr,e,fr,(bel.block _ (sz k o hk hl)).trans q1,q2,q3,q4,q5,fun i x hx => ?_⟩
      obtain ⟨v,r1,r2,r3⟩:=q6 i x hx
      exact ⟨v,r1,ext.rv H r2,r3⟩
    mt:=fun k o hk hl hm => ⟨(H.mt k o hk hl hm).1,(H.mt k o hk hl hm).2⟩
    sld:=fun k o hk hl hm => H.sld k o hk hl hm
    inj:=H.inj
    rd:=fun b hb => Nat.lt_of_lt_of_le (H.rd b hb) bel.size }
theorem prim21 (E:Env):PrimOK Go.Proofs.Tryd.prog E 21 OP.checkP where
  fn:=⟨Go.Proofs.Tryd.f21,by kernel_rfl,by kernel_rfl,by kernel_rfl⟩
  call:=by
    intro args v hv hpa hpv base c vals H hb G hvs
    unfold OP.checkP at hv
    split at hv
    case h_2 => cases hv
    rename_i n l
    cases hq:OP.ints l with
    | none => rw [hq] at hv; cases hv
    | some xs =>
      rw [hq] at hv
      simp only [Option.bind_some] at hv
      split at hv
      case isFalse => cases hv
      rename_i hbd
      cases hv
      obtain ⟨e1,e2⟩:=ints_eq l xs hq
      subst e1
      rw [vals_of hvs]
      match xs,hbd.2.2,e2 with
      | [x0,x1,x2,x3,x4,x5,x6,x7,x8,x9,x10,x11,x12,x13,x14,x15],_,e2 =>
        refine (callsIn_wide.1 (Go.Proofs.GO4.check_in 3 n ⟨hbd.1,hbd.2.1⟩ x0 x1 x2 x3 x4 x5 x6 x7 x8 x9 x10 x11 x12 x13 x14 x15 e2 c.w)).mono ?_
        rintro e w' ⟨rfl,bel⟩
        exact ⟨⟨w',c.Rd,c.m,c.h⟩,rfl,rfl,(grown0 H bel).1,(grown0 H bel).2,_,rfl,.int _ _⟩
theorem octs_eq (m:Nat) (hm:2 ≤ m) (x0 x1 x2 x3 x4 x5 x6 x7 x8 x9 x10 x11 x12 x13 x14 x15:Int):((x1 + 40 * x0) :: ([x0,x1,x2,x3,x4,x5,x6,x7,x8,x9,x10,x11,x12,x13,x14,x15].take m).drop 2).flatMap OG.grp=OP.octs (m:Int) [x0,x1,x2,x3,x4,x5,x6,x7,x8,x9,x10,x11,x12,x13,x14,x15]:=by
  obtain ⟨j,rfl⟩:∃ j,m=j + 2:=⟨m - 2,by omega⟩
  have e:(((j + 2:Nat):Int).toNat - 2)=j:=by omega
  unfold OP.octs OP.subs
  simp only [List.take_succ_cons,List.drop_succ_cons,List.drop_zero]
  rw [e]
theorem octs_ne (m:Nat) (xs:List Int) (x y:Int) (r:List Int) (h:xs=x :: y :: r):0 < (OP.octs (m:Int) xs).length:=by
  subst h
  unfold OP.octs OP.subs
  simp only [List.flatMap_cons,List.length_append]
  have:=Go.Proofs.OG.grp_pos (y + 40 * x)
  omega
theorem prim117 (E:Env):PrimOK Go.Proofs.Tryd.prog E 117 OP.oidP where
  fn:=⟨Go.Proofs.Tryd.f117,by kernel_rfl,by kernel_rfl,by kernel_rfl⟩
  call:=by
    intro args v hv hpa hpv base c vals H hb G hvs
    unfold OP.oidP at hv
    split at hv
    case h_2 => cases hv
    rename_i n l
    cases hq:OP.ints l with
    | none => rw [hq] at hv; cases hv
    | some xs =>
      rw [hq] at hv
      simp only [Option.bind_some] at hv
      split at hv
      case isFalse => cases hv
      rename_i hbd
      cases hv
      obtain ⟨e1,e2⟩:=ints_eq l xs hq
      subst e1
      rw [vals_of hvs]
      match xs,hbd.2.2,e2 with
      | [x0,x1,x2,x3,x4,x5,x6,x7,x8,x9,x10,x11,x12,x13,x14,x15],_,e2 =>
        cases hok:OP.okB n [x0,x1,x2,x3,x4,x5,x6,x7,x8,x9,x10,x11,x12,x13,x14,x15] with
        | false =>
          rw [if_neg (by simp)]
          refine (callsIn_wide.1 (Go.Proofs.GO5.put_bad 3 (by omega) n x0 x1 x2 x3 x4 x5 x6 x7 x8 x9 x10 x11 x12 x13 x14 x15 c.w (fun W _ => by
            have:=Go.Proofs.GO4.check_in (3 - 1) n ⟨hbd.1,hbd.2.1⟩ x0 x1 x2 x3 x4 x5 x6 x7 x8 x9 x10 x11 x12 x13 x14 x15 e2 W
            rw [hok] at this
            exact this))).mono ?_
          rintro e w' ⟨rfl,bel⟩
          exact ⟨⟨w',c.Rd,c.m,c.h⟩,rfl,rfl,(grown0 H bel).1,(grown0 H bel).2,_,rfl,.tup _ _ (.cons _ _ _ _ (.slE _ _ _ _ (by simp) (by simp) (by simp)) (.cons _ _ _ _ (.int _ _) .nil))⟩
        | true =>
          rw [if_pos rfl]
          have hok2:=hok
          unfold OP.okB at hok2
          simp only [Bool.and_eq_true,decide_eq_true_eq] at hok2
          obtain ⟨⟨k1,k2,k3,k4,k5⟩,_⟩:=hok2
          obtain ⟨m,rfl⟩:=Int.eq_ofNat_of_zero_le hbd.1
          have z0:=e2 x0 (by simp)
          have z1:=e2 x1 (by simp)
          refine (callsIn_wide.1 (Go.Proofs.GO2.put_in 3 m (by omega) (by omega) (by omega) x0 x1 x2 x3 x4 x5 x6 x7 x8 x9 x10 x11 x12 x13 x14 x15 ⟨z0.1,k3⟩ ⟨z1.1,k5⟩ e2 c.w (fun W _ => by
            have:=Go.Proofs.GO4.check_in (3 - 1) m ⟨hbd.1,hbd.2.1⟩ x0 x1 x2 x3 x4 x5 x6 x7 x8 x9 x10 x11 x12 x13 x14 x15 e2 W
            rw [hok] at this
            exact this))).mono ?_
          rintro e w' ⟨g,cap,rfl,own,bel⟩
          rw [octs_eq m (by omega)] at own ⊢
          have hpos:=octs_ne m [x0,x1,x2,x3,x4,x5,x6,x7,x8,x9,x10,x11,x12,x13,x14,x15] _ _ _ rfl
          obtain ⟨L,hL⟩:∃ L,OP.octs (m:Int) [x0,x1,x2,x3,x4,x5,x6,x7,x8,x9,x10,x11,x12,x13,x14,x15]=L:=⟨_,rfl⟩
          rw [hL] at own hpos ⊢
          obtain ⟨hg,cells⟩:c.w.heap.size ≤ g ∧ ∀ j,j < L.length → w'.cell? ⟨g,j,none⟩=(L.map (Value.int .u8))[j]?:=by
            refine ⟨?_,fun j hj => own.cellAt j (by omega)⟩
            rcases own.2 with ⟨h',_⟩ | ⟨g',cap',cur,h',hb,_⟩
            · simp at h'
            · cases h'; exact hb
          have gl:g < w'.heap.size:=by
            rcases own.2 with ⟨h',_⟩ | ⟨g',cap',cur,h',hb,hh,_⟩
            · simp at h'
            · cases h'; exact (Array.getElem?_eq_some_iff.1 hh).1
          obtain ⟨hr,ext⟩:=grown H bel g hg gl
          refine ⟨⟨w',fun b => c.Rd b ∨ b=g,c.m,c.h⟩,rfl,rfl,hr,ext,_,rfl,.tup _ _ (.cons _ _ _ _ ?_ (.cons _ _ _ _ (.int _ _) .nil))⟩
          have:=RV.slC (c:=⟨w',fun b => c.Rd b ∨ b=g,c.m,c.h⟩) (L.map (AV.int .u8)) (L.map (Value.int .u8)) g 0 1 (some L.length) L.length (by intro e; rw [List.map_eq_nil_iff] at e; rw [e] at hpos; simp at hpos) (bytes_RVs _ _) (fun v hv => by obtain ⟨z,_,rfl⟩:=List.mem_map.1 hv; rfl) (fun v hv => by obtain ⟨z,_,rfl⟩:=List.mem_map.1 hv; rfl) (.inr rfl)
            (fun i cell hi => by
              rw [bytes_cells] at hi
              have hlt:i < L.length:=by have:=(List.getElem?_eq_some_iff.1 hi).1; simpa using this
              rw [Nat.zero_add]
              exact (cells i hlt).trans hi) (by simp) (by simp)
          rw [List.length_map] at this
          exact this
end GO5
