/- oids.Put in the model. No conditions. -/
import Derived.Test.YtbiildmljbcmeaaDoorGO1
import Derived.RangeFuncNested
import Derived.RangeFuncWrites
import Derived.BigRegionIn
import Derived.Laws.Cover3
namespace Go.Proofs
open Go.RowKit Go.Shelf
attribute [local go_sem] Oper.semAt_some
set_option maxRecDepth 100000
set_option linter.unusedSimpArgs false
set_option linter.unusedVariables false
set_option maxHeartbeats 2000000
theorem GO2.groups_in (F:Fence) (n:Nat) (h:F.fn 151) (hro:F.round=none) (v:Int) (w:World) :
    CallsIn F n Tryd.prog 151 #[.int .u32 v] w fun e w' => e=.returned (.func (.func 166) #[] #[.pointer (some ⟨w.heap.size,0,none⟩)]) ∧ w'=w.alloc (.cells #[.int .u32 v] 23):=by
  refine callsIn_of_wp Tryd.func151 rfl h ?_ hro
  simp only [Tryd.ntmps151,List.size_toArray,List.length_cons,List.length_nil,Nat.reduceAdd,Nat.reduceSub,Array.replicate_succ,Array.replicate_zero,List.push_toArray,List.append_toArray,List.nil_append,List.cons_append]
  gi_wp2
  go_ret
  exact ⟨rfl,rfl⟩
theorem GO2.clip_in (F:Fence) (n:Nat) (h:F.fn 131) (hro:F.round=none) (g:Nat) (len cap:Nat) (hl:len ≤ cap) (hm:cap ≤ 9223372036854775807) (w:World) :
    CallsIn F n Tryd.prog 131 #[.slice (some ⟨g,0,none⟩) len cap] w fun e w' => e=.returned (.slice (some ⟨g,0,none⟩) len len) ∧ w=w':=by
  refine callsIn_of_wp Tryd.func131 rfl h ?_ hro
  simp only [Tryd.ntmps131,List.size_toArray,List.length_cons,List.length_nil,Nat.reduceAdd,Nat.reduceSub,Array.replicate_succ,Array.replicate_zero,List.push_toArray,List.append_toArray,List.nil_append,List.cons_append]
  gi_wp2
  go_ret
  exact ⟨rfl,rfl⟩
theorem GO2.arcs_in (n:Nat) (b:Nat) (m:Nat) (hm:m ≤ 16) (w:World) (hc:w.cell? ⟨b,0,none⟩=some (.int .u8 m)) :
    CallsIn Fence.wide n Tryd.prog 150 #[.pointer (some ⟨b,0,none⟩)] w fun e w' => e=.returned (.slice (some ⟨b,1,none⟩) m 16) ∧ w'=w.drew:=by
  have hm2:(m:Int) ≤ 16:=by omega
  have hm3:((16:Int) < (m:Int))=False:=by simp; omega
  refine callsIn_of_wp Tryd.func150 rfl trivial ?_ rfl
  simp only [Tryd.ntmps150,List.size_toArray,List.length_cons,List.length_nil,Nat.reduceAdd,Nat.reduceSub,Array.replicate_succ,Array.replicate_zero,List.push_toArray,List.append_toArray,List.nil_append,List.cons_append]
  gi_wp2
  gi_region
  all_goals gi_wp2
  all_goals (go_ret; exact ⟨rfl,rfl⟩)
theorem GO2.info4:(Tryd.prog.info? 23).map (fun i => (i.zero,i.size,i.bytes))=some (some (.int .u32 0),1,4):=by kernel_rfl
theorem GO2.clone_in (F:Fence) (n:Nat) (h:F.fn 149) (hro:F.round=none) (b m:Nat) (hm:m ≤ 16) (xs:List Value) (hx:xs.length=m) (h1c:∀ u ∈ xs,u.oneCell'=true) (w:World) (hb:b < w.heap.size) (hc:∀ j u,xs[j]? = some u → w.cell? ⟨b,1 + j,none⟩=some u) :
    CallsIn F n Tryd.prog 149 #[.slice (some ⟨b,1,none⟩) m 16] w fun e w' => ∃ v,e=.returned v ∧ w'.ownsRow w.heap.size 23 1 v m xs ∧ Below w.heap.size w w':=by
  obtain ⟨i0,hi,hz0,hz1,hz2⟩:=info_parts GO2.info4
  refine callsIn_of_wp Tryd.func149 rfl h ?_ hro
  simp only [Tryd.ntmps149,List.size_toArray,List.length_cons,List.length_nil,Nat.reduceAdd,Nat.reduceSub,Array.replicate_succ,Array.replicate_zero,List.push_toArray,List.append_toArray,List.nil_append,List.cons_append]
  gi_wp2
  simp [Sem.run_bind,binOp,run_equal_slice_nil _ 124 23 _ _ _ Tryd.underlying124]
  have hown:=World.ownsRow_lit (base:=w.heap.size) (e:=23) (size:=1) w #[] 0 (Nat.le_refl _) (by decide) rfl
  have hc':∀ j u,xs[j]? = some u → (w.alloc (.cells #[] 23)).cell? ((⟨b,1,none⟩:Addr).add j)=some u:=fun j u hj => by
    have ea:(⟨b,1,none⟩:Addr).add j=⟨b,1 + j,none⟩:=by simp [Addr.add]
    rw [ea]
    exact (World.cell?_of_block (w:=w) (a:=⟨b,1 + j,none⟩) (Below.heap_alloc w _ b hb)).trans (hc j u hj)
  gi_wp2_with (gi_at_builtin; refine wpListIn_append_own _ rfl _ _ 124 rfl w.heap.size 23 i0 (.int .u32 0) 1 4 Tryd.underlying124 hi hz0 hz1 hz2 rfl (by decide) _ _ _ rfl hown ⟨b,1,none⟩ m 16 xs rfl (by omega) hc' h1c (by have:maxLen=9223372036854775807:=rfl; omega) (by omega) (by simp) ?_; intro v' w1 hown' hgrow _)
  go_ret
  rw [Nat.zero_add,List.nil_append] at hown'
  exact ⟨_,rfl,hown',((Below.refl _ w).alloc (Nat.le_refl _) _).grown hgrow (by simp) (by intro k hk; have hk':some w.heap.size=some k:=hk; cases hk'; exact Nat.le_refl _)⟩
theorem GO2.info1:(Tryd.prog.info? 5).map (fun i => (i.zero,i.size,i.bytes))=some (some (.int .u8 0),1,1):=by kernel_rfl
theorem GO2.row_pos {W:World} {base e size k:Nat} {v:Value} {xs:List Value} (h:W.ownsRow base e size v k xs) (hk:0 < k) :
    ∃ g cap cur,v=.slice (some ⟨g,0,none⟩) k cap ∧ base ≤ g ∧ W.heap[g]? = some (.cells cur e (0,0)) ∧ k ≤ cap ∧ cap ≤ maxLen ∧ cur.size=cap * size ∧ cur.toList.take (k * size)=xs:=by
  rcases h.2 with ⟨_,h'⟩ | h'
  · omega
  · exact h'
theorem GO2.cell_of {W:World} {b:Nat} {arr:Array Value} {e:TypeId} (h:W.heap[b]? = some (.cells arr e (0,0))) (j:Nat):W.cell? ⟨b,j,none⟩=arr[j]?:=by simp [World.cell?,h]
theorem GO2.frozen_of {W:World} {b:Nat} {arr:Array Value} {e:TypeId} (h:W.heap[b]? = some (.cells arr e (0,0))) (j:Nat):W.frozen? ⟨b,j,none⟩=false:=by simp [World.frozen?,h]
theorem GO2.set_cells {W:World} {b:Nat} {arr:Array Value} {e:TypeId} (h:W.heap[b]? = some (.cells arr e (0,0))) (j:Nat) (v:Value):∃ arr',(W.setCell ⟨b,j,none⟩ v).heap[b]? = some (.cells arr' e (0,0)):=by
  obtain ⟨hlt,hk'⟩:=Array.getElem?_eq_some_iff.1 h
  refine ⟨arr.setIfInBounds j v,?_⟩
  show (W.heap.modify b _)[b]? = _
  rw [Array.getElem?_eq_getElem (by rw [Array.size_modify]; exact hlt),Array.getElem_modify_self,hk']
  simp
theorem OG.grp_le (v:Int):(OG.grp v).length ≤ 5:=by unfold OG.grp; split <;> simp
theorem OG.grp_pos (v:Int):0 < (OG.grp v).length:=by unfold OG.grp; split <;> simp
theorem OG.len_le (l:List Int):(l.flatMap OG.grp).length ≤ 5 * l.length:=by
  induction l with
  | nil => simp
  | cons a l ih =>
    rw [List.flatMap_cons,List.length_append,List.length_cons]
    have:=OG.grp_le a
    omega
theorem GO2.cell_put (W:World) (l:Nat) (o:Obj) (a:Addr) (h:a.block ≠ l):(W.putObj l o).cell? a=W.cell? a:=by
  unfold World.putObj World.cell?
  simp only [Array.getElem?_setIfInBounds,h.symm,if_false]
theorem GO2.own_cells {β:Type} (g:Nat) (arr:Array Value) (t:TypeId):Own (fun (_:β) W => W.heap[g]? = some (.cells arr t (0,0))):=fun s X Y row hs hg hrow =>
  (hg.block g (Array.getElem?_eq_some_iff.1 hs).1 (fun e => by
    obtain ⟨o,h1,h2⟩:=hrow g e.symm
    rw [hs] at h1
    cases h1
    cases h2)).trans hs
theorem GO2.own_marks {β:Type} (ms:List Nat) (B:Nat) (hb:∀ r ∈ ms,r < B):OwnFrom B (fun (_:β) W => ∀ r ∈ ms,W.heap[r]? = some (.deferred (some []))):=fun s X Y row hs hg hrow r hr =>
  (hg.block r (Array.getElem?_eq_some_iff.1 (hs r hr)).1 (fun e => by
    have h1:=(hrow r e.symm).1
    have h2:=hb r hr
    omega)).trans (hs r hr)
theorem GO2.not_row {W:World} {g:Nat} {arr:Array Value} {t e:TypeId} (h:W.heap[g]? = some (.cells arr t (0,0))) (hte:t ≠ e) {base size k:Nat} {v:Value} {xs:List Value} (hr:W.ownsRow base e size v k xs):some g ≠ v.ownBlock:=by
  intro q
  rcases hr.2 with ⟨rfl,_⟩ | ⟨g',cap,cur,rfl,_,hg,_⟩
  · simp [Value.ownBlock] at q
  · simp [Value.ownBlock] at q
    subst q
    rw [h] at hg
    injection hg with e1
    injection e1 with _ e2 _
    exact hte e2
theorem GO2.leaves {F:Fence} {n:Nat} {P:Program} {fn:Func} {tmps:Array Value} {R:Ending → World → Prop} (n₀:Nat) (Φ:World → Prop) (hΦ:∀ W r,Φ W → n₀ ≤ r → W.heap[r]? = some (.deferred (some [])) → Φ (W.putObj r (.deferred none)))
    (hend:∀ W,Φ W → LeavesInM F n P fn tmps R [] .returning W):∀ (ms:List Nat) (W:World),ms.Nodup → (∀ r ∈ ms,n₀ ≤ r ∧ W.heap[r]? = some (.deferred (some []))) → Φ W →
    LeavesInM F n P fn tmps R (ms.map fun r => { target:=.collected r,args:=#[] }) .returning W
  | [],W,_,_,h => hend W h
  | r :: ms,W,hnd,hms,h => by
    have h1:=hms r (by simp)
    refine ⟨by simp,.inl ⟨r,_,rfl,run_takeDeferred h1.2,?_⟩⟩
    refine GO2.leaves n₀ Φ hΦ hend ms _ (List.nodup_cons.1 hnd).2 (fun q hq => ⟨(hms q (by simp [hq])).1,?_⟩) (hΦ W r h h1.1 h1.2)
    rw [World.putObj_heap_other (fun e => (List.nodup_cons.1 hnd).1 (by rw [← e]; exact hq))]
    exact (hms q (by simp [hq])).2
theorem GO2.put_in (n m:Nat) (hn:3 ≤ n) (hm2:2 ≤ m) (hm:m ≤ 16) (x0 x1 x2 x3 x4 x5 x6 x7 x8 x9 x10 x11 x12 x13 x14 x15:Int) (h0:0 ≤ x0 ∧ x0 ≤ 2) (h1:0 ≤ x1 ∧ x1 ≤ 4294967215) (hxs:∀ z ∈ [x0,x1,x2,x3,x4,x5,x6,x7,x8,x9,x10,x11,x12,x13,x14,x15],(0:Int) ≤ z ∧ z < 4294967296) (w:World)
    (hck:∀ W,Below w.heap.size w W → CallsIn Fence.wide (n - 1) Tryd.prog 21 #[.agg #[.int .u8 m,.int .u32 x0,.int .u32 x1,.int .u32 x2,.int .u32 x3,.int .u32 x4,.int .u32 x5,.int .u32 x6,.int .u32 x7,.int .u32 x8,.int .u32 x9,.int .u32 x10,.int .u32 x11,.int .u32 x12,.int .u32 x13,.int .u32 x14,.int .u32 x15]] W fun e W' => e=.returned (.int .i64 0) ∧ Below W.heap.size W W') :
    CallsIn Fence.wide n Tryd.prog 117 #[.agg #[.int .u8 m,.int .u32 x0,.int .u32 x1,.int .u32 x2,.int .u32 x3,.int .u32 x4,.int .u32 x5,.int .u32 x6,.int .u32 x7,.int .u32 x8,.int .u32 x9,.int .u32 x10,.int .u32 x11,.int .u32 x12,.int .u32 x13,.int .u32 x14,.int .u32 x15]] w fun e W' => ∃ g cap,e=.returned (.tuple #[.slice (some ⟨g,0,none⟩) (((x1 + 40 * x0) :: ([x0,x1,x2,x3,x4,x5,x6,x7,x8,x9,x10,x11,x12,x13,x14,x15].take m).drop 2).flatMap OG.grp).length (((x1 + 40 * x0) :: ([x0,x1,x2,x3,x4,x5,x6,x7,x8,x9,x10,x11,x12,x13,x14,x15].take m).drop 2).flatMap OG.grp).length,.int .i64 0]) ∧
      W'.ownsRow w.heap.size 5 1 (.slice (some ⟨g,0,none⟩) (((x1 + 40 * x0) :: ([x0,x1,x2,x3,x4,x5,x6,x7,x8,x9,x10,x11,x12,x13,x14,x15].take m).drop 2).flatMap OG.grp).length cap) (((x1 + 40 * x0) :: ([x0,x1,x2,x3,x4,x5,x6,x7,x8,x9,x10,x11,x12,x13,x14,x15].take m).drop 2).flatMap OG.grp).length ((((x1 + 40 * x0) :: ([x0,x1,x2,x3,x4,x5,x6,x7,x8,x9,x10,x11,x12,x13,x14,x15].take m).drop 2).flatMap OG.grp).map (.int .u8)) ∧ Below w.heap.size w W':=by
  obtain ⟨SB,hSB0⟩:∃ SB:List Int,SB=(x1 + 40 * x0) :: ([x0,x1,x2,x3,x4,x5,x6,x7,x8,x9,x10,x11,x12,x13,x14,x15].take m).drop 2:=⟨_,rfl⟩
  rw [← hSB0]
  have hn1:1 ≤ n:=by omega
  obtain ⟨i0,hi,hz0,hz1,hz2⟩:=info_parts GO2.info1
  obtain ⟨AS,hAS⟩:∃ AS:List Int,AS=[x0,x1,x2,x3,x4,x5,x6,x7,x8,x9,x10,x11,x12,x13,x14,x15]:=⟨_,rfl⟩
  have hA16:AS.length=16:=by rw [hAS]; rfl
  have hj1:(1:Int) ≤ (m:Int):=by omega
  refine callsIn_of_wp_marks Tryd.func117 rfl trivial ?_ rfl
  simp only [Tryd.ntmps117,List.size_toArray,List.length_cons,List.length_nil,Nat.reduceAdd,Nat.reduceSub,Array.replicate_succ,Array.replicate_zero,List.push_toArray,List.append_toArray,List.nil_append,List.cons_append]
  gi_wp2_with first
    | (refine ⟨trivial,?_⟩; gi_at_call 21; refine (hck _ ((Below.refl _ w).alloc (Nat.le_refl _) _)).mono ?_; rintro e W2 ⟨rfl,hB2⟩
       have hs2:w.heap.size < W2.heap.size:=Nat.lt_of_lt_of_le (by simp) hB2.size
       have hbx:∀ o,(W2.alloc o).heap[w.heap.size]? = some (.cells (Value.int .u8 m :: AS.map (Value.int .u32)).toArray 35 (0,0)):=fun o => (Below.heap_alloc W2 o _ hs2).trans ((hB2.block _ (by simp)).trans (by rw [hAS]; exact World.alloc_heap_new w _)))
    | (refine ⟨trivial,?_⟩; gi_at_call 150; refine (GO2.arcs_in (n - 1) w.heap.size m hm _ (by rw [GO2.cell_of (hbx _)]; rfl)).mono ?_; rintro e w' ⟨rfl,rfl⟩)
    | (refine ⟨trivial,?_⟩; gi_at_call 149; refine (GO2.clone_in Fence.wide (n - 1) trivial rfl w.heap.size m hm ((AS.map (Value.int .u32)).take m) (by simp [hA16]; omega) (by intro u hu; have:=List.mem_of_mem_take hu; simp at this; obtain ⟨z,_,rfl⟩:=this; rfl) _ (by simp; omega) (fun j u hj => by
         have hj2:(AS.map (Value.int .u32))[j]? = some u:=by rw [List.getElem?_take] at hj; split at hj; exact hj; cases hj
         exact (GO2.cell_of (hbx _) (1 + j)).trans (by rw [List.getElem?_toArray,Nat.add_comm]; exact hj2))).mono ?_; rintro e W4 ⟨v4,rfl,hrow4,hB4⟩; obtain ⟨g,cap,cur,rfl,hg1,hg2,hg3,hg4,hg5,hg6⟩:=GO2.row_pos hrow4 (by omega)
       have hcg1:W4.cell? ⟨g,1,none⟩=some (.int .u32 x1):=(hrow4.cellAt 1 (by omega)).trans (by rw [List.getElem?_take,if_pos (by omega),hAS]; rfl)
       have hcf1:W4.frozen? ⟨g,1,none⟩=false:=GO2.frozen_of hg2 1
       have hcb1:W4.cell? ⟨w.heap.size,1,none⟩=some (.int .u32 x0):=(hB4.cell (p:=⟨w.heap.size,1,none⟩) (by simp; omega)).trans ((GO2.cell_of (hbx _) 1).trans (by rw [hAS]; rfl)))
  have hj2:(0:Int) < ((m - 1:Nat):Int):=by omega
  have hw0:((x1 + 40 * x0) % 4294967296)=x1 + 40 * x0:=by omega
  clear hck hbx
  gi_region
  all_goals gi_wp2
  obtain ⟨W5,hW5⟩:∃ W5,(W4.setCell { block:=g,off:=1 } (Value.int IntKind.u32 (x1 + 40 * x0))).drew=W5:=⟨_,rfl⟩
  rw [hW5]
  have hSB:SB=(x1 + 40 * x0) :: (AS.take m).drop 2:=by rw [hSB0,hAS]
  have hSl:SB.length=m - 1:=by rw [hSB]; simp [hA16]; omega
  have hSv:∀ z ∈ SB,0 ≤ z ∧ z < 4294967296:=by
    intro z hz
    rw [hSB] at hz
    rcases List.mem_cons.1 hz with rfl | hz
    · omega
    · exact hxs z (by rw [← hAS]; exact List.mem_of_mem_take (List.mem_of_mem_drop hz))
  have hs4:W2.heap.size + 1 ≤ W4.heap.size:=Nat.le_trans (by simp) hB4.size
  have hgB:W2.heap.size + 1 ≤ g:=by simpa using hg1
  have hbox:Boxed W5 W2.heap.size 26 (.slice none 0 0):=by
    rw [← hW5]
    show (W4.setCell _ _).heap[W2.heap.size]? = _
    rw [Below.heap_setCell _ _ _ _ (by simp; omega)]
    exact (hB4.block _ (by simp)).trans (Boxed.new W2 _ _)
  obtain ⟨arr,hga⟩:∃ arr,W5.heap[g]? = some (.cells arr 23 (0,0)):=by
    rw [← hW5]
    exact GO2.set_cells hg2 _ _
  have hcell:∀ (j:Nat) (z:Int),SB[j]? = some z → W5.cell? ⟨g,1 + j,none⟩=some (.int .u32 z):=by
    intro j z hj
    rw [← hW5]
    show (W4.setCell _ _).cell? _=_
    cases j with
    | zero =>
      rw [hSB] at hj
      cases hj
      exact World.cell?_setCell_same' _ _ _ (by rw [hcg1]; rfl)
    | succ j =>
      rw [hSB,List.getElem?_cons_succ,List.getElem?_drop] at hj
      have hjm:2 + j < m:=by rw [List.getElem?_take] at hj; split at hj; assumption; cases hj
      refine (World.cell?_setCell_other _ _ (a:=⟨g,1,none⟩) (b:=⟨g,1 + (j + 1),none⟩) (by intro e; injection e with e1 e2 e3; omega)).trans ?_
      refine (hrow4.cellAt (1 + (j + 1)) (by omega)).trans ?_
      rw [← List.map_take,List.getElem?_map,show 1 + (j + 1)=2 + j from by omega,hj]
      rfl
  have hB5:Below w.heap.size w W5:=by
    rw [← hW5]
    refine Below.drew (Below.setCell (((((Below.refl _ w).alloc (Nat.le_refl _) _).trans (hB2.mono (by simp))).trans (((Below.refl _ W2).alloc (by omega) _).drew)).trans (hB4.mono (by simp; omega))) (by simp; omega) _)
  have hrow0:W5.ownsRow w.heap.size 5 1 (.slice none 0 0) 0 []:=World.ownsRow_nil _ _ _ _
  clear hB2 hrow4 hB4 hcg1 hcf1 hcb1 hg2 hg6
  refine wpIn_loop (fun a' W' => ∃ (k:Nat) (ms:List Nat) (u8 u30 u31 u32 u33 u34 u40:Value),a' = { tmps:=#[Value.agg #[Value.int IntKind.u8 ↑m,Value.int IntKind.u32 x0,Value.int IntKind.u32 x1,Value.int IntKind.u32 x2,Value.int IntKind.u32 x3,Value.int IntKind.u32 x4,Value.int IntKind.u32 x5,Value.int IntKind.u32 x6,Value.int IntKind.u32 x7,Value.int IntKind.u32 x8,Value.int IntKind.u32 x9,Value.int IntKind.u32 x10,Value.int IntKind.u32 x11,Value.int IntKind.u32 x12,Value.int IntKind.u32 x13,Value.int IntKind.u32 x14,Value.int IntKind.u32 x15],Value.pointer (some { block:=w.heap.size,off:=0 }),Value.slice none 0 0,Value.int IntKind.i64 0,Value.int IntKind.i64 0,Value.pointer (some { block:=W2.heap.size,off:=0 }),Value.slice (some { block:=g,off:=1 }) (m - 1) (cap - 1),undef,u8,undef,Value.agg #[Value.int IntKind.u8 ↑m,Value.int IntKind.u32 x0,Value.int IntKind.u32 x1,Value.int IntKind.u32 x2,Value.int IntKind.u32 x3,Value.int IntKind.u32 x4,Value.int IntKind.u32 x5,Value.int IntKind.u32 x6,Value.int IntKind.u32 x7,Value.int IntKind.u32 x8,Value.int IntKind.u32 x9,Value.int IntKind.u32 x10,Value.int IntKind.u32 x11,Value.int IntKind.u32 x12,Value.int IntKind.u32 x13,Value.int IntKind.u32 x14,Value.int IntKind.u32 x15],Value.int IntKind.i64 0,Value.int IntKind.i64 0,Value.bool false,undef,Value.slice (some { block:=w.heap.size,off:=1 }) m 16,Value.slice (some { block:=g,off:=0 }) m cap,Value.slice (some { block:=g,off:=1 }) (m - 1) (cap - 1),Value.slice (some { block:=g,off:=1 }) (m - 1) (cap - 1),Value.pointer (some { block:=g,off:=1 }),Value.int IntKind.u32 x1,Value.pointer (some { block:=w.heap.size,off:=1 }),Value.pointer (some { block:=w.heap.size,off:=1 }),Value.int IntKind.u32 x0,Value.int IntKind.u32 (40 * x0),Value.int IntKind.u32 (x1 + 40 * x0),Value.pointer (some { block:=g,off:=1 }),Value.slice (some { block:=g,off:=1 }) (m - 1) (cap - 1),Value.int IntKind.i64 ↑(m - 1),Value.int IntKind.i64 (k:Int),u30,u31,u32,u33,u34,undef,undef,undef,undef,undef,u40,undef,undef],defers:=ms.map (fun r => { target:=.collected r,args:=#[] }) } ∧ k ≤ m - 1 ∧
      (∃ u,Boxed W' W2.heap.size 26 u ∧ W'.ownsRow w.heap.size 5 1 u ((SB.take k).flatMap OG.grp).length (((SB.take k).flatMap OG.grp).map (.int .u8))) ∧
      W'.heap[g]? = some (.cells arr 23 (0,0)) ∧ ms.Nodup ∧ (∀ r ∈ ms,w.heap.size ≤ r ∧ W'.heap[r]? = some (.deferred (some []))) ∧ Below w.heap.size w W' ∧ W2.heap.size < W'.heap.size)
    (fun a' _ => (m - 1) - (intOf (a'.tmps.getD 29 undef)).toNat) ?_ ?_
  · refine ⟨0,[],_,_,_,_,_,_,_,rfl,Nat.zero_le _,⟨_,hbox,hrow0⟩,hga,List.nodup_nil,by simp,hB5,hbox.lt⟩
  rintro a' W' ⟨k,ms,u8,u30,u31,u32,u33,u34,u40,rfl,hk,⟨u,hv,hrow⟩,hg',hnd,hms,hB',hsz⟩
  by_cases hlt:k < m - 1
  · have hlt2:(k:Int) < ((m - 1:Nat):Int):=by omega
    obtain ⟨z,hz⟩:∃ z,SB[k]? = some z:=⟨_,List.getElem?_eq_getElem (by omega)⟩
    have hcz:W'.cell? ⟨g,1 + k,none⟩=some (.int .u32 z):=by
      rw [GO2.cell_of hg',← GO2.cell_of hga]
      exact hcell k z hz
    gi_wp2_with (refine ⟨trivial,?_⟩; gi_at_call 151; refine (GO2.groups_in Fence.wide (n - 1) trivial rfl z _).mono ?_; rintro e w' ⟨rfl,rfl⟩)
    obtain ⟨AC,hAC⟩:∃ AC,(SB.take k).flatMap OG.grp=AC:=⟨_,rfl⟩
    rw [hAC] at hrow
    have hACl:AC.length ≤ 75:=by
      have:=OG.len_le (SB.take k)
      rw [hAC] at this
      simp at this
      omega
    have hGl:=OG.grp_le z
    have hzb:=hSv z (List.mem_of_getElem? hz)
    have bN:=Boxed.new W' 23 (.int .u32 z)
    have hBs:=hB'.size
    have hrow':(W'.alloc (.cells #[.int .u32 z] 23)).ownsRow w.heap.size 5 1 u (AC.length + ([]:List Int).length) ((AC ++ []).map (Value.int .u8)):=by
      rw [List.append_nil,List.length_nil,Nat.add_zero]
      exact hrow.alloc _
    refine wpIn_rangeFunc_ownG rfl hn1 (gf:=166) (lb:=#[.pointer (some ⟨W'.heap.size,0,none⟩)]) rfl trivial (enters_of Tryd.func166 (by kernel_rfl) rfl)
      (encs:=fun x:Int => #[.int .u8 x]) (Kp:=fun A B => B.cell? ⟨W'.heap.size,0,none⟩=A.cell? ⟨W'.heap.size,0,none⟩) (S:=fun ys => ys=OG.grp z) (Sp:=fun pre => pre <+: OG.grp z) (N:=(OG.grp z).length)
      (w0:=W'.alloc (.cells #[.int .u32 z] 23))
      (fun l J Jx W hW _ _ hY h0 => GO1.groups1_in Fence.wide (n - 1) trivial rfl (by omega) l W'.heap.size z hzb.1 hzb.2 J Jx hY W ((hW.cell (p:=⟨W'.heap.size,0,none⟩) (by simp)).trans bN.cell) h0)
      (fun h k => k.trans h) (fun W l o o' hl ho hc _ => GO2.cell_put W l o' _ (by simp at hl ⊢; omega)) (Below.refl _ _) (fun _ => rfl)
      (fun pre W => (∃ u,Boxed W W2.heap.size 26 u ∧ W.ownsRow w.heap.size 5 1 u (AC.length + pre.length) ((AC ++ pre).map (Value.int .u8)) ∧ True) ∧ Boxed W W'.heap.size 23 (.int .u32 z) ∧ W.heap[g]? = some (.cells arr 23 (0,0)) ∧ (∀ r ∈ ms,W.heap[r]? = some (.deferred (some []))) ∧ Below w.heap.size w W)
      (fun _ _ _ => False)
      (OwnFrom.and (Own.from (holdsRow_own w.heap.size W2.heap.size 26 5 1 (fun pre:List Int => AC.length + pre.length) (fun pre => (AC ++ pre).map (Value.int .u8)) (fun _ _ => True)) _) (OwnFrom.and (Own.from (boxed_own _ _ _) _) (OwnFrom.and (Own.from (GO2.own_cells g arr 23) _) (OwnFrom.and (GO2.own_marks ms _ (fun r hr => by have:=(Array.getElem?_eq_some_iff.1 (hms r hr).2).1; simp; omega)) (ownFrom_below (Nat.le_refl _) (by simp; omega))))))
      (fun _ _ _ _ _ hs _ _ => hs)
      ⟨⟨u,hv.alloc _,hrow',trivial⟩,bN,(Below.heap_alloc W' _ _ (Array.getElem?_eq_some_iff.1 hg').1).trans hg',fun r hr => (Below.heap_alloc W' _ _ (Array.getElem?_eq_some_iff.1 (hms r hr).2).1).trans (hms r hr).2,hB'.alloc (by omega) _⟩
      (fun x => { tmps:=#[Value.agg #[Value.int IntKind.u8 ↑m,Value.int IntKind.u32 x0,Value.int IntKind.u32 x1,Value.int IntKind.u32 x2,Value.int IntKind.u32 x3,Value.int IntKind.u32 x4,Value.int IntKind.u32 x5,Value.int IntKind.u32 x6,Value.int IntKind.u32 x7,Value.int IntKind.u32 x8,Value.int IntKind.u32 x9,Value.int IntKind.u32 x10,Value.int IntKind.u32 x11,Value.int IntKind.u32 x12,Value.int IntKind.u32 x13,Value.int IntKind.u32 x14,Value.int IntKind.u32 x15],Value.pointer (some { block:=w.heap.size,off:=0 }),Value.slice none 0 0,Value.int IntKind.i64 0,Value.int IntKind.i64 0,Value.pointer (some { block:=W2.heap.size,off:=0 }),Value.slice (some { block:=g,off:=1 }) (m - 1) (cap - 1),undef,Value.int IntKind.u32 z,Value.int IntKind.u8 x,Value.agg #[Value.int IntKind.u8 ↑m,Value.int IntKind.u32 x0,Value.int IntKind.u32 x1,Value.int IntKind.u32 x2,Value.int IntKind.u32 x3,Value.int IntKind.u32 x4,Value.int IntKind.u32 x5,Value.int IntKind.u32 x6,Value.int IntKind.u32 x7,Value.int IntKind.u32 x8,Value.int IntKind.u32 x9,Value.int IntKind.u32 x10,Value.int IntKind.u32 x11,Value.int IntKind.u32 x12,Value.int IntKind.u32 x13,Value.int IntKind.u32 x14,Value.int IntKind.u32 x15],Value.int IntKind.i64 0,Value.int IntKind.i64 0,Value.bool false,undef,Value.slice (some { block:=w.heap.size,off:=1 }) m 16,Value.slice (some { block:=g,off:=0 }) m cap,Value.slice (some { block:=g,off:=1 }) (m - 1) (cap - 1),Value.slice (some { block:=g,off:=1 }) (m - 1) (cap - 1),Value.pointer (some { block:=g,off:=1 }),Value.int IntKind.u32 x1,Value.pointer (some { block:=w.heap.size,off:=1 }),Value.pointer (some { block:=w.heap.size,off:=1 }),Value.int IntKind.u32 x0,Value.int IntKind.u32 (40 * x0),Value.int IntKind.u32 (x1 + 40 * x0),Value.pointer (some { block:=g,off:=1 }),Value.slice (some { block:=g,off:=1 }) (m - 1) (cap - 1),Value.int IntKind.i64 ↑(m - 1),Value.int IntKind.i64 ↑k,Value.bool true,Value.pointer (some { block:=g,off:=1 + k }),Value.int IntKind.u32 z,Value.int IntKind.u32 z,Value.func (Fn.func 166) #[] #[Value.pointer (some { block:=W'.heap.size,off:=0 })],Value.int IntKind.u8 x,undef,undef,undef,undef,u40,undef,undef],defers:=[] }) ?assign ?body ?done ?stop
    case assign =>
      intro l x W K hK
      gi_wp2
      exact hK
    case body =>
      rintro l pre x W ⟨⟨u,hv,hrow,_⟩,hbN,hgW,hmW,hB⟩ hlt
      have hc:=hv.cell
      gi_wp2_with (gi_at_builtin; refine wpListIn_append_own _ rfl _ _ 26 rfl w.heap.size 5 i0 (.int .u8 0) 1 1 Tryd.underlying26 hi hz0 hz1 hz2 rfl (by decide) _ _ _ rfl (hrow.alloc _) ⟨W.heap.size,0,none⟩ 1 1 [.int .u8 x] rfl rfl (cell_one_new _ _ _) (by simp [Value.oneCell']) (by have:maxLen=9223372036854775807:=rfl; omega) (by omega) (by have:=hB.size; simp; omega) ?_; intro v' w1 hown' hgrow _; obtain ⟨g',cap',rfl⟩:=ownsRow_succ hown'; obtain ⟨hv1,hv2,hr2,hk2,hb2⟩:=hv.appended (by decide) hrow hB.size (by omega) hown' hgrow; have hN1:=(hbN.alloc (.cells #[.int .u8 x] 5)).kept hgrow (hbN.not_row (by decide) hrow); have hc1:=hv1.cell; have hf1:=hv1.frozen; have hG1:w1.heap[g]? = some (.cells arr 23 (0,0)):=(hgrow.block g (by simp; have:=(Array.getElem?_eq_some_iff.1 hgW).1; omega) (GO2.not_row hgW (by decide) hrow)).trans ((Below.heap_alloc W _ _ (Array.getElem?_eq_some_iff.1 hgW).1).trans hgW))
      have hN2:=hN1.other (B':=W2.heap.size) (by omega) (.slice (some ⟨g',0,none⟩) (AC.length + pre.length + 1) cap')
      have hG2:(w1.setCell ⟨W2.heap.size,0,none⟩ (.slice (some ⟨g',0,none⟩) (AC.length + pre.length + 1) cap')).heap[g]? = some (.cells arr 23 (0,0)):=(Below.heap_setCell w1 ⟨W2.heap.size,0,none⟩ _ g (by simp; omega)).trans hG1
      exact ⟨hk2.from _,hN2.cell.trans hbN.cell.symm,⟨_,hv2,by simpa [Nat.add_assoc] using hr2,trivial⟩,hN2,hG2,fun r hr => hk2.same r _ (hmW r hr) rfl,hB.trans hb2⟩
    case done =>
      rintro D ys W hD rfl ⟨⟨u,hv,hrow,_⟩,hbN,hgW,hmW,hB⟩ hK
      have hk1:(k:Int) < 16:=by omega
      gi_wp2
      have hDn:D ∉ ms:=fun hr => by
        have:=(Array.getElem?_eq_some_iff.1 (hms D hr).2).1
        simp at hD
        omega
      refine ⟨⟨k + 1,D :: ms,_,_,_,_,_,_,_,rfl,by omega,⟨u,hv,?_⟩,hgW,List.nodup_cons.2 ⟨hDn,hnd⟩,?_,hB,hv.lt⟩,?_⟩
      · rw [List.take_add_one,hz,List.flatMap_append,hAC]
        simpa using hrow
      · intro r hr
        rcases List.mem_cons.1 hr with rfl | hr
        · exact ⟨by simp at hD; omega,hK⟩
        · exact ⟨(hms r hr).1,hmW r hr⟩
      · simp [intOf]
        omega
    case stop =>
      rintro D c pre W _ _ h _
      exact h.elim
  · obtain rfl:k=m - 1:=by omega
    have hlt2:¬ (((m - 1:Nat):Int) < ((m - 1:Nat):Int)):=by omega
    have hcB:=hv.cell
    rw [List.take_of_length_le (show SB.length ≤ m - 1 by omega)] at hrow
    obtain ⟨AC,hAC⟩:∃ AC,SB.flatMap OG.grp=AC:=⟨_,rfl⟩
    have hACp:0 < AC.length:=by
      rw [← hAC,hSB,List.flatMap_cons,List.length_append]
      have:=OG.grp_pos (x1 + 40 * x0)
      omega
    rw [hAC] at hrow
    obtain ⟨L,hL⟩:∃ L,AC.length=L:=⟨_,rfl⟩
    rw [hL] at hrow hACp
    clear hSB hSB0 hSl hSv hcell
    obtain ⟨g9,cap9,cur9,rfl,q1,q2,q3,q4,q5,q6⟩:=GO2.row_pos hrow hACp
    gi_wp2_with (refine ⟨trivial,?_⟩; gi_at_call 131; refine (GO2.clip_in Fence.wide (n - 1) trivial rfl g9 L cap9 q3 q4 _).mono ?_; rintro e w' ⟨rfl,rfl⟩)
    refine GO2.leaves w.heap.size (fun W => W.ownsRow w.heap.size 5 1 (.slice (some ⟨g9,0,none⟩) L cap9) L (AC.map (.int .u8)) ∧ Below w.heap.size w W)
      (fun W r h hr hd => ⟨ownsRow_putObj h.1 _ hd rfl,h.2.trans (belowK_b (w:=w) (Nat.le_refl _) W r _ _ hr hd rfl rfl)⟩) (fun W h => ?_) ms _ hnd hms ⟨hrow,hB'⟩
    refine ⟨_,results_tmp2 rfl _ _ _,g9,cap9,?_⟩
    rw [hAC,hL]
    exact ⟨rfl,h.1,h.2⟩
end Go.Proofs
