/- tags.Put in the model, where the number has octets of its own. No conditions. -/
import Derived.Test.YtbiildmljbcmeaaDoorG1
import Derived.RangeFuncNested
import Derived.RangeFuncWrites
namespace Go.Proofs
open Go.RowKit Go.Shelf
attribute [local go_sem] Oper.semAt_some
set_option maxRecDepth 100000
set_option linter.unusedSimpArgs false
set_option linter.unusedVariables false
set_option maxHeartbeats 2000000
theorem G2.check_in (F:Fence) (n:Nat) (h:F.fn 121) (hro:F.round=none) (c v:Int) (k:Bool) (c0:c ≤ 3) (v0:31 ≤ v) (v1:v < 268435456) (w:World) :
    CallsIn F n Tryd.prog 121 #[.agg #[.int .u8 c,.bool k,.int .u32 v]] w fun e w' => e=.returned (.int .i64 0) ∧ w'=w.alloc (.cells #[.int .u8 c,.bool k,.int .u32 v] 25):=by
  refine callsIn_of_wp Tryd.func121 rfl h ?_ hro
  simp only [Tryd.ntmps121,List.size_toArray,List.length_cons,List.length_nil,Nat.reduceAdd,Nat.reduceSub,Array.replicate_succ,Array.replicate_zero,List.push_toArray,List.append_toArray,List.nil_append,List.cons_append]
  gi_wp2
  all_goals first | (exfalso; omega) | (go_ret; exact ⟨rfl,rfl⟩)
theorem G2.groups_in (F:Fence) (n:Nat) (h:F.fn 169) (hro:F.round=none) (v:Int) (w:World) :
    CallsIn F n Tryd.prog 169 #[.int .u32 v] w fun e w' => e=.returned (.func (.func 181) #[] #[.pointer (some ⟨w.heap.size,0,none⟩)]) ∧ w'=w.alloc (.cells #[.int .u32 v] 23):=by
  refine callsIn_of_wp Tryd.func169 rfl h ?_ hro
  simp only [Tryd.ntmps169,List.size_toArray,List.length_cons,List.length_nil,Nat.reduceAdd,Nat.reduceSub,Array.replicate_succ,Array.replicate_zero,List.push_toArray,List.append_toArray,List.nil_append,List.cons_append]
  gi_wp2
  go_ret
  exact ⟨rfl,rfl⟩
theorem G2.clip_in (F:Fence) (n:Nat) (h:F.fn 131) (hro:F.round=none) (g:Nat) (len cap:Nat) (hl:len ≤ cap) (hm:cap ≤ 9223372036854775807) (w:World) :
    CallsIn F n Tryd.prog 131 #[.slice (some ⟨g,0,none⟩) len cap] w fun e w' => e=.returned (.slice (some ⟨g,0,none⟩) len len) ∧ w=w':=by
  refine callsIn_of_wp Tryd.func131 rfl h ?_ hro
  simp only [Tryd.ntmps131,List.size_toArray,List.length_cons,List.length_nil,Nat.reduceAdd,Nat.reduceSub,Array.replicate_succ,Array.replicate_zero,List.push_toArray,List.append_toArray,List.nil_append,List.cons_append]
  gi_wp2
  go_ret
  exact ⟨rfl,rfl⟩
theorem G2.cell_put (W:World) (l:Nat) (o:Obj) (a:Addr) (h:a.block ≠ l):(W.putObj l o).cell? a=W.cell? a:=by
  unfold World.putObj World.cell?
  simp only [Array.getElem?_setIfInBounds,h.symm,if_false]
theorem G2.info5:(Tryd.prog.info? 5).map (fun i => (i.zero,i.size,i.bytes))=some (some (.int .u8 0),1,1):=by kernel_rfl
theorem G2.put_in (F:Fence) (n:Nat) (h93:F.fn 159) (h102:F.fn 121) (h111:F.fn 169) (h114:F.fn 181) (h97:F.fn 131) (hro:F.round=none) (hn:3 ≤ n) (c v x0:Int) (k:Bool) (c0:0 ≤ c) (c3:c ≤ 3) (v0:31 ≤ v) (v1:v < 268435456)
    (hx0:(if k then bits .or .u8 (bits .or .u8 (c * 64) 32) 31 else bits .or .u8 (c * 64) 31)=x0) (w:World) :
    CallsIn F n Tryd.prog 159 #[.agg #[.int .u8 c,.bool k,.int .u32 v]] w fun e W' => ∃ g cap,e=.returned (.tuple #[.slice (some ⟨g,0,none⟩) ((TG.grp v).length + 1) ((TG.grp v).length + 1),.int .i64 0]) ∧
      W'.ownsRow w.heap.size 5 1 (.slice (some ⟨g,0,none⟩) ((TG.grp v).length + 1) cap) ((TG.grp v).length + 1) (.int .u8 x0 :: (TG.grp v).map (.int .u8)) ∧ Below w.heap.size w W':=by
  have h1:1 ≤ n:=by omega
  obtain ⟨i0,hi,hz0,hz1,hz2⟩:=info_parts G2.info5
  have hgl:(TG.grp v).length ≤ 4:=by unfold TG.grp; split <;> simp
  refine callsIn_of_wp_marks Tryd.func159 rfl h93 ?_ hro
  simp only [Tryd.ntmps159,List.size_toArray,List.length_cons,List.length_nil,Nat.reduceAdd,Nat.reduceSub,Array.replicate_succ,Array.replicate_zero,List.push_toArray,List.append_toArray,List.nil_append,List.cons_append]
  cases k
  · simp only [Bool.false_eq_true,if_false,if_true] at hx0
    gi_wp2_with first | (gi_at_call 121; refine (G2.check_in F (n - 1) h102 hro c v false c3 v0 v1 _).mono ?_; rintro e w' ⟨rfl,rfl⟩) | (gi_at_call 169; refine (G2.groups_in F (n - 1) h111 hro v _).mono ?_; rintro e w' ⟨rfl,rfl⟩)
    all_goals first | (exfalso; omega) | skip
    try rw [hx0]
    obtain ⟨W2,hW2⟩:∃ W2,(w.alloc (.cells #[.int .u8 c,.bool false,.int .u32 v] 25)).alloc (.cells #[.int .u8 c,.bool false,.int .u32 v] 25)=W2:=⟨_,rfl⟩
    have hs2:W2.heap.size=w.heap.size + 2:=by rw [← hW2]; simp
    have hB2:Below w.heap.size w W2:=by rw [← hW2]; exact ((Below.refl _ w).alloc (Nat.le_refl _) _).alloc (by simp) _
    have hrow:=World.ownsRow_lit (base:=w.heap.size) (e:=5) (size:=1) W2 #[.int .u8 x0] 1 (by omega) (by decide) rfl
    have bO:=Boxed.new (W2.alloc (.cells #[.int .u8 x0] 5)) 26 (.slice (some ⟨w.heap.size + 1 + 1,0,none⟩) 1 1)
    have bN:=Boxed.new ((W2.alloc (.cells #[.int .u8 x0] 5)).alloc (.cells #[.slice (some ⟨w.heap.size + 1 + 1,0,none⟩) 1 1] 26)) 23 (.int .u32 v)
    rw [World.size_alloc,hs2] at bO
    rw [World.size_alloc,World.size_alloc,hs2] at bN
    rw [hs2] at hrow
    rw [hW2]
    have hB0:Below w.heap.size w (((W2.alloc (.cells #[.int .u8 x0] 5)).alloc (.cells #[.slice (some ⟨w.heap.size + 1 + 1,0,none⟩) 1 1] 26)).alloc (.cells #[.int .u32 v] 23)):=((hB2.alloc (by omega) _).alloc (by simp; omega) _).alloc (by simp; omega) _
    refine wpIn_rangeFunc_ownG hro h1 (gf:=181) (lb:=#[.pointer (some ⟨w.heap.size + 1 + 1 + 1 + 1,0,none⟩)]) rfl h114 (enters_of Tryd.func181 (by kernel_rfl) rfl)
      (encs:=fun x:Int => #[.int .u8 x]) (Kp:=fun A B => B.cell? ⟨w.heap.size + 1 + 1 + 1 + 1,0,none⟩=A.cell? ⟨w.heap.size + 1 + 1 + 1 + 1,0,none⟩) (S:=fun ys => ys=TG.grp v) (Sp:=fun pre => pre <+: TG.grp v) (N:=(TG.grp v).length)
      (w0:=((W2.alloc (.cells #[.int .u8 x0] 5)).alloc (.cells #[.slice (some ⟨w.heap.size + 1 + 1,0,none⟩) 1 1] 26)).alloc (.cells #[.int .u32 v] 23))
      (fun l J Jx W hW _ _ hY h0 => G1.groups1_in F (n - 1) h114 hro (by omega) l (w.heap.size + 1 + 1 + 1 + 1) v (by omega) v1 J Jx hY W ((hW.cell (p:=⟨w.heap.size + 1 + 1 + 1 + 1,0,none⟩) (by simp [hs2])).trans bN.cell) h0)
      (fun h k => k.trans h) (fun W l o o' hl ho hc _ => G2.cell_put W l o' _ (by simp [hs2] at hl ⊢; omega)) (Below.refl _ _) (fun _ => rfl)
      (fun pre W => (∃ u,Boxed W (w.heap.size + 1 + 1 + 1) 26 u ∧ W.ownsRow w.heap.size 5 1 u (pre.length + 1) (.int .u8 x0 :: pre.map (Value.int .u8)) ∧ True) ∧ Boxed W (w.heap.size + 1 + 1 + 1 + 1) 23 (.int .u32 v) ∧ Below w.heap.size w W)
      (fun _ _ _ => False)
      (OwnFrom.and (Own.from (holdsRow_own w.heap.size (w.heap.size + 1 + 1 + 1) 26 5 1 (fun pre:List Int => pre.length + 1) (fun pre => .int .u8 x0 :: pre.map (Value.int .u8)) (fun _ _ => True)) _) (OwnFrom.and (Own.from (boxed_own _ _ _) _) (ownFrom_below (Nat.le_refl _) (by simp [hs2]; omega))))
      (fun _ _ _ _ _ hs _ _ => hs)
      ⟨⟨_,bO.alloc _,(hrow.alloc _).alloc _,trivial⟩,bN,hB0⟩
      (fun x => { tmps:=#[Value.agg #[Value.int IntKind.u8 c,Value.bool false,Value.int IntKind.u32 v],Value.pointer (some { block:=w.heap.size,off:=0 }),Value.slice none 0 0,Value.int IntKind.i64 0,Value.int IntKind.i64 0,Value.int IntKind.u8 (c * 64),Value.pointer (some { block:=w.heap.size + 1 + 1 + 1,off:=0 }),Value.int IntKind.u8 x,Value.agg #[Value.int IntKind.u8 c,Value.bool false,Value.int IntKind.u32 v],Value.int IntKind.i64 0,Value.int IntKind.i64 0,Value.bool false,undef,Value.pointer (some { block:=w.heap.size,off:=0 }),Value.int IntKind.u8 c,Value.int IntKind.u8 (c * 64),Value.pointer (some { block:=w.heap.size,off:=1 }),Value.bool false,undef,undef,Value.pointer (some { block:=w.heap.size,off:=2 }),Value.int IntKind.u32 v,Value.bool (decide (v < 31)),undef,undef,undef,undef,undef,undef,Value.int IntKind.u8 (c * 64),Value.int IntKind.u8 x0,Value.slice (some { block:=w.heap.size + 1 + 1,off:=0 }) 1 1,Value.pointer (some { block:=w.heap.size,off:=2 }),Value.int IntKind.u32 v,Value.func (Fn.func 181) #[] #[Value.pointer (some { block:=w.heap.size + 1 + 1 + 1 + 1,off:=0 })],Value.int IntKind.u8 x,undef,undef,undef,undef,undef,undef],defers:=[] }) ?assign ?body ?done ?stop
    case assign =>
      intro l x W K hK
      gi_wp2
      exact hK
    case body =>
      rintro l pre x W ⟨⟨u,hv,hrow,_⟩,hbN,hB⟩ hlt
      have hc:=hv.cell
      gi_wp2_with (gi_at_builtin; refine wpListIn_append_own _ rfl _ _ 26 rfl w.heap.size 5 i0 (.int .u8 0) 1 1 Tryd.underlying26 hi hz0 hz1 hz2 rfl (by decide) _ _ _ rfl (hrow.alloc _) ⟨W.heap.size,0,none⟩ 1 1 [.int .u8 x] rfl rfl (cell_one_new _ _ _) (by simp [Value.oneCell']) (by have:maxLen=9223372036854775807:=rfl; omega) (by omega) (by have:=hB.size; simp; omega) ?_; intro v' w1 hown' hgrow _; obtain ⟨g',cap',rfl⟩:=ownsRow_succ hown'; obtain ⟨hv1,hv2,hr2,hk2,hb2⟩:=hv.appended (by decide) hrow hB.size (by omega) hown' hgrow; have hN1:=(hbN.alloc (.cells #[.int .u8 x] 5)).kept hgrow (hbN.not_row (by decide) hrow); have hc1:=hv1.cell; have hf1:=hv1.frozen)
      have hN2:=hN1.other (B':=w.heap.size + 1 + 1 + 1) (by omega) (.slice (some ⟨g',0,none⟩) (pre.length + 1 + 1) cap')
      exact ⟨hk2.from _,hN2.cell.trans hbN.cell.symm,⟨_,And.intro hv2 (by simpa using hr2)⟩,hN2,hB.trans hb2⟩
    case done =>
      rintro D ys W hD rfl ⟨⟨u,hv,hrow,_⟩,hbN,hB⟩ hK
      have hc:=hv.cell
      obtain ⟨g,cap,rfl⟩:=ownsRow_succ hrow
      have hcap:(TG.grp v).length + 1 ≤ cap ∧ cap ≤ 9223372036854775807:=by
        rcases hrow.2 with ⟨h',_⟩ | ⟨g',cap',cur,h',_,_,q1,q2,_⟩
        · simp at h'
        · cases h'; exact ⟨q1,q2⟩
      gi_wp2_with (gi_at_call 131; refine (G2.clip_in F (n - 1) h97 hro g _ cap hcap.1 hcap.2 _).mono ?_; rintro e w' ⟨rfl,rfl⟩)
      refine ⟨by simp,.inl ⟨_,_,rfl,run_takeDeferred hK,?_⟩⟩
      exact ⟨_,results_tmp2 rfl _ _ _,g,cap,rfl,ownsRow_putObj hrow _ hK rfl,hB.trans (belowK_b (w:=w) (Nat.le_refl _) W D _ _ (by simp at hD; omega) hK rfl rfl)⟩
    case stop =>
      rintro D c pre W _ _ h _
      exact h.elim
  · simp only [Bool.false_eq_true,if_false,if_true] at hx0
    gi_wp2_with first | (gi_at_call 121; refine (G2.check_in F (n - 1) h102 hro c v true c3 v0 v1 _).mono ?_; rintro e w' ⟨rfl,rfl⟩) | (gi_at_call 169; refine (G2.groups_in F (n - 1) h111 hro v _).mono ?_; rintro e w' ⟨rfl,rfl⟩)
    all_goals first | (exfalso; omega) | skip
    try rw [hx0]
    obtain ⟨W2,hW2⟩:∃ W2,(w.alloc (.cells #[.int .u8 c,.bool true,.int .u32 v] 25)).alloc (.cells #[.int .u8 c,.bool true,.int .u32 v] 25)=W2:=⟨_,rfl⟩
    have hs2:W2.heap.size=w.heap.size + 2:=by rw [← hW2]; simp
    have hB2:Below w.heap.size w W2:=by rw [← hW2]; exact ((Below.refl _ w).alloc (Nat.le_refl _) _).alloc (by simp) _
    have hrow:=World.ownsRow_lit (base:=w.heap.size) (e:=5) (size:=1) W2 #[.int .u8 x0] 1 (by omega) (by decide) rfl
    have bO:=Boxed.new (W2.alloc (.cells #[.int .u8 x0] 5)) 26 (.slice (some ⟨w.heap.size + 1 + 1,0,none⟩) 1 1)
    have bN:=Boxed.new ((W2.alloc (.cells #[.int .u8 x0] 5)).alloc (.cells #[.slice (some ⟨w.heap.size + 1 + 1,0,none⟩) 1 1] 26)) 23 (.int .u32 v)
    rw [World.size_alloc,hs2] at bO
    rw [World.size_alloc,World.size_alloc,hs2] at bN
    rw [hs2] at hrow
    rw [hW2]
    have hB0:Below w.heap.size w (((W2.alloc (.cells #[.int .u8 x0] 5)).alloc (.cells #[.slice (some ⟨w.heap.size + 1 + 1,0,none⟩) 1 1] 26)).alloc (.cells #[.int .u32 v] 23)):=((hB2.alloc (by omega) _).alloc (by simp; omega) _).alloc (by simp; omega) _
    refine wpIn_rangeFunc_ownG hro h1 (gf:=181) (lb:=#[.pointer (some ⟨w.heap.size + 1 + 1 + 1 + 1,0,none⟩)]) rfl h114 (enters_of Tryd.func181 (by kernel_rfl) rfl)
      (encs:=fun x:Int => #[.int .u8 x]) (Kp:=fun A B => B.cell? ⟨w.heap.size + 1 + 1 + 1 + 1,0,none⟩=A.cell? ⟨w.heap.size + 1 + 1 + 1 + 1,0,none⟩) (S:=fun ys => ys=TG.grp v) (Sp:=fun pre => pre <+: TG.grp v) (N:=(TG.grp v).length)
      (w0:=((W2.alloc (.cells #[.int .u8 x0] 5)).alloc (.cells #[.slice (some ⟨w.heap.size + 1 + 1,0,none⟩) 1 1] 26)).alloc (.cells #[.int .u32 v] 23))
      (fun l J Jx W hW _ _ hY h0 => G1.groups1_in F (n - 1) h114 hro (by omega) l (w.heap.size + 1 + 1 + 1 + 1) v (by omega) v1 J Jx hY W ((hW.cell (p:=⟨w.heap.size + 1 + 1 + 1 + 1,0,none⟩) (by simp [hs2])).trans bN.cell) h0)
      (fun h k => k.trans h) (fun W l o o' hl ho hc _ => G2.cell_put W l o' _ (by simp [hs2] at hl ⊢; omega)) (Below.refl _ _) (fun _ => rfl)
      (fun pre W => (∃ u,Boxed W (w.heap.size + 1 + 1 + 1) 26 u ∧ W.ownsRow w.heap.size 5 1 u (pre.length + 1) (.int .u8 x0 :: pre.map (Value.int .u8)) ∧ True) ∧ Boxed W (w.heap.size + 1 + 1 + 1 + 1) 23 (.int .u32 v) ∧ Below w.heap.size w W)
      (fun _ _ _ => False)
      (OwnFrom.and (Own.from (holdsRow_own w.heap.size (w.heap.size + 1 + 1 + 1) 26 5 1 (fun pre:List Int => pre.length + 1) (fun pre => .int .u8 x0 :: pre.map (Value.int .u8)) (fun _ _ => True)) _) (OwnFrom.and (Own.from (boxed_own _ _ _) _) (ownFrom_below (Nat.le_refl _) (by simp [hs2]; omega))))
      (fun _ _ _ _ _ hs _ _ => hs)
      ⟨⟨_,bO.alloc _,(hrow.alloc _).alloc _,trivial⟩,bN,hB0⟩
      (fun x => { tmps:=#[Value.agg #[Value.int IntKind.u8 c,Value.bool true,Value.int IntKind.u32 v],Value.pointer (some { block:=w.heap.size,off:=0 }),Value.slice none 0 0,Value.int IntKind.i64 0,Value.int IntKind.i64 0,Value.int IntKind.u8 (bits BinOp.or IntKind.u8 (c * 64) 32),Value.pointer (some { block:=w.heap.size + 1 + 1 + 1,off:=0 }),Value.int IntKind.u8 x,Value.agg #[Value.int IntKind.u8 c,Value.bool true,Value.int IntKind.u32 v],Value.int IntKind.i64 0,Value.int IntKind.i64 0,Value.bool false,undef,Value.pointer (some { block:=w.heap.size,off:=0 }),Value.int IntKind.u8 c,Value.int IntKind.u8 (c * 64),Value.pointer (some { block:=w.heap.size,off:=1 }),Value.bool true,Value.int IntKind.u8 (c * 64),Value.int IntKind.u8 (bits BinOp.or IntKind.u8 (c * 64) 32),Value.pointer (some { block:=w.heap.size,off:=2 }),Value.int IntKind.u32 v,Value.bool (decide (v < 31)),undef,undef,undef,undef,undef,undef,Value.int IntKind.u8 (bits BinOp.or IntKind.u8 (c * 64) 32),Value.int IntKind.u8 x0,Value.slice (some { block:=w.heap.size + 1 + 1,off:=0 }) 1 1,Value.pointer (some { block:=w.heap.size,off:=2 }),Value.int IntKind.u32 v,Value.func (Fn.func 181) #[] #[Value.pointer (some { block:=w.heap.size + 1 + 1 + 1 + 1,off:=0 })],Value.int IntKind.u8 x,undef,undef,undef,undef,undef,undef],defers:=[] }) ?assign ?body ?done ?stop
    case assign =>
      intro l x W K hK
      gi_wp2
      exact hK
    case body =>
      rintro l pre x W ⟨⟨u,hv,hrow,_⟩,hbN,hB⟩ hlt
      have hc:=hv.cell
      gi_wp2_with (gi_at_builtin; refine wpListIn_append_own _ rfl _ _ 26 rfl w.heap.size 5 i0 (.int .u8 0) 1 1 Tryd.underlying26 hi hz0 hz1 hz2 rfl (by decide) _ _ _ rfl (hrow.alloc _) ⟨W.heap.size,0,none⟩ 1 1 [.int .u8 x] rfl rfl (cell_one_new _ _ _) (by simp [Value.oneCell']) (by have:maxLen=9223372036854775807:=rfl; omega) (by omega) (by have:=hB.size; simp; omega) ?_; intro v' w1 hown' hgrow _; obtain ⟨g',cap',rfl⟩:=ownsRow_succ hown'; obtain ⟨hv1,hv2,hr2,hk2,hb2⟩:=hv.appended (by decide) hrow hB.size (by omega) hown' hgrow; have hN1:=(hbN.alloc (.cells #[.int .u8 x] 5)).kept hgrow (hbN.not_row (by decide) hrow); have hc1:=hv1.cell; have hf1:=hv1.frozen)
      have hN2:=hN1.other (B':=w.heap.size + 1 + 1 + 1) (by omega) (.slice (some ⟨g',0,none⟩) (pre.length + 1 + 1) cap')
      exact ⟨hk2.from _,hN2.cell.trans hbN.cell.symm,⟨_,And.intro hv2 (by simpa using hr2)⟩,hN2,hB.trans hb2⟩
    case done =>
      rintro D ys W hD rfl ⟨⟨u,hv,hrow,_⟩,hbN,hB⟩ hK
      have hc:=hv.cell
      obtain ⟨g,cap,rfl⟩:=ownsRow_succ hrow
      have hcap:(TG.grp v).length + 1 ≤ cap ∧ cap ≤ 9223372036854775807:=by
        rcases hrow.2 with ⟨h',_⟩ | ⟨g',cap',cur,h',_,_,q1,q2,_⟩
        · simp at h'
        · cases h'; exact ⟨q1,q2⟩
      gi_wp2_with (gi_at_call 131; refine (G2.clip_in F (n - 1) h97 hro g _ cap hcap.1 hcap.2 _).mono ?_; rintro e w' ⟨rfl,rfl⟩)
      refine ⟨by simp,.inl ⟨_,_,rfl,run_takeDeferred hK,?_⟩⟩
      exact ⟨_,results_tmp2 rfl _ _ _,g,cap,rfl,ownsRow_putObj hrow _ hK rfl,hB.trans (belowK_b (w:=w) (Nat.le_refl _) W D _ _ (by simp at hD; omega) hK rfl rfl)⟩
    case stop =>
      rintro D c pre W _ _ h _
      exact h.elim
end Go.Proofs
