/- oids.Check in the model. No conditions. -/
import Derived.Test.YtbiildmljbcmeaaDoorGO2
import Derived.Test.YtbiildmljbcmeaaDoorOP
import Derived.LoopIn
namespace Go.Proofs
open Go.RowKit Go.Shelf
attribute [local go_sem] Oper.semAt_some
set_option maxRecDepth 100000
set_option linter.unusedSimpArgs false
set_option linter.unusedVariables false
set_option maxHeartbeats 2000000
theorem GO4.no (m:Int) (x y:Int) (r:List Int) (h:m < 2 ∨ 16 < m ∨ 2 < x ∨ (x < 2 ∧ 39 < y) ∨ 4294967215 < y):OP.okB m (x :: y :: r)=false:=by
  unfold OP.okB
  simp only [Bool.and_eq_false_iff,decide_eq_false_iff_not]
  left
  omega
theorem GO4.no2 (m:Int) (AS:List Int) (k:Nat) (z:Int) (h:AS[m.toNat + k]? = some z) (hz:z ≠ 0):OP.okB m AS=false:=by
  unfold OP.okB
  split
  · simp only [Bool.and_eq_false_iff]
    right
    rw [List.all_eq_false]
    refine ⟨z,List.mem_of_getElem? (i:=k) (by rw [List.getElem?_drop]; exact h),by simpa using hz⟩
  · rfl
theorem GO4.yes (m:Int) (x y:Int) (r:List Int) (h:¬ (m < 2 ∨ 16 < m ∨ 2 < x ∨ (x < 2 ∧ 39 < y) ∨ 4294967215 < y)) (hl:(x :: y :: r).length=16) (hz:∀ j,j < 16 - m.toNat → (x :: y :: r)[m.toNat + j]? = some 0):OP.okB m (x :: y :: r)=true:=by
  unfold OP.okB
  rw [Bool.and_eq_true,decide_eq_true_eq,List.all_eq_true]
  refine ⟨by omega,fun z q => ?_⟩
  obtain ⟨i,hi⟩:=List.mem_iff_getElem?.1 q
  rw [List.getElem?_drop] at hi
  have hlt:=(List.getElem?_eq_some_iff.1 hi).1
  rw [hz i (by omega)] at hi
  cases hi
  rfl
theorem GO4.check_in (n:Nat) (m:Int) (m0:0 ≤ m ∧ m < 256) (x0 x1 x2 x3 x4 x5 x6 x7 x8 x9 x10 x11 x12 x13 x14 x15:Int) (hxs:∀ z ∈ [x0,x1,x2,x3,x4,x5,x6,x7,x8,x9,x10,x11,x12,x13,x14,x15],(0:Int) ≤ z ∧ z < 4294967296) (w:World) :
    CallsIn Fence.wide n Tryd.prog 21 #[.agg #[.int .u8 m,.int .u32 x0,.int .u32 x1,.int .u32 x2,.int .u32 x3,.int .u32 x4,.int .u32 x5,.int .u32 x6,.int .u32 x7,.int .u32 x8,.int .u32 x9,.int .u32 x10,.int .u32 x11,.int .u32 x12,.int .u32 x13,.int .u32 x14,.int .u32 x15]] w fun e w' => e=.returned (.int .i64 (if OP.okB m [x0,x1,x2,x3,x4,x5,x6,x7,x8,x9,x10,x11,x12,x13,x14,x15] then 0 else 1)) ∧ Below w.heap.size w w':=by
  obtain ⟨AS,hAS⟩:∃ AS:List Int,AS=[x0,x1,x2,x3,x4,x5,x6,x7,x8,x9,x10,x11,x12,x13,x14,x15]:=⟨_,rfl⟩
  have hA16:AS.length=16:=by rw [hAS]; rfl
  have hbx:(w.alloc (.cells #[.int .u8 m,.int .u32 x0,.int .u32 x1,.int .u32 x2,.int .u32 x3,.int .u32 x4,.int .u32 x5,.int .u32 x6,.int .u32 x7,.int .u32 x8,.int .u32 x9,.int .u32 x10,.int .u32 x11,.int .u32 x12,.int .u32 x13,.int .u32 x14,.int .u32 x15] 35)).heap[w.heap.size]? = some (.cells (Value.int .u8 m :: AS.map (Value.int .u32)).toArray 35 (0,0)):=by rw [hAS]; exact World.alloc_heap_new w _
  have hBl:Below w.heap.size w (w.alloc (.cells #[.int .u8 m,.int .u32 x0,.int .u32 x1,.int .u32 x2,.int .u32 x3,.int .u32 x4,.int .u32 x5,.int .u32 x6,.int .u32 x7,.int .u32 x8,.int .u32 x9,.int .u32 x10,.int .u32 x11,.int .u32 x12,.int .u32 x13,.int .u32 x14,.int .u32 x15] 35)):=(Below.refl _ w).alloc (Nat.le_refl _) _
  obtain ⟨r,hr⟩:∃ r:Int,(if OP.okB m [x0,x1,x2,x3,x4,x5,x6,x7,x8,x9,x10,x11,x12,x13,x14,x15] then 0 else 1)=r:=⟨_,rfl⟩
  rw [hr]
  have y0:=hxs x0 (by simp)
  have y1:=hxs x1 (by simp)
  clear hxs
  refine callsIn_of_wp Tryd.func21 rfl trivial ?_ rfl
  simp only [Tryd.ntmps21,List.size_toArray,List.length_cons,List.length_nil,Nat.reduceAdd,Nat.reduceSub,Array.replicate_succ,Array.replicate_zero,List.push_toArray,List.append_toArray,List.nil_append,List.cons_append]
  by_cases hb:m < 2 ∨ 16 < m ∨ 2 < x0 ∨ (x0 < 2 ∧ 39 < x1) ∨ 4294967215 < x1
  · obtain rfl:r=1:=by rw [← hr,GO4.no m _ _ _ hb]; rfl
    clear hr hbx hAS
    gi_wp2
    all_goals first | (exfalso; omega) | (go_ret; exact ⟨rfl,hBl⟩)
  have b1:¬ m < 2:=by omega
  have b2:¬ 16 < m:=by omega
  have b3:¬ 2 < x0:=by omega
  have b4:¬ 4294967215 < x1:=by omega
  have hyes:=fun hz => GO4.yes m x0 x1 [x2,x3,x4,x5,x6,x7,x8,x9,x10,x11,x12,x13,x14,x15] hb rfl hz
  have hno:=fun k z => GO4.no2 m [x0,x1,x2,x3,x4,x5,x6,x7,x8,x9,x10,x11,x12,x13,x14,x15] k z
  rw [← hAS] at hr hyes hno
  clear hAS
  gi_wp2
  all_goals first | (exfalso; omega) | skip
  all_goals (obtain ⟨W1,hW1⟩:∃ W1,w.alloc (.cells #[.int .u8 m,.int .u32 x0,.int .u32 x1,.int .u32 x2,.int .u32 x3,.int .u32 x4,.int .u32 x5,.int .u32 x6,.int .u32 x7,.int .u32 x8,.int .u32 x9,.int .u32 x10,.int .u32 x11,.int .u32 x12,.int .u32 x13,.int .u32 x14,.int .u32 x15] 35)=W1:=⟨_,rfl⟩)
  all_goals rw [hW1] at hbx hBl ⊢
  all_goals clear hW1
  all_goals gi_loopw [40] (fun p wr => wr=W1 ∧ ∃ k:Nat,p=.int .i64 (k:Int) ∧ k ≤ 16 - m.toNat ∧ ∀ j,j < k → AS[m.toNat + j]? = some 0) (fun p wr => 16 - m.toNat - (intOf p).toNat)
  all_goals first
    | exact ⟨rfl,0,rfl,Nat.zero_le _,fun j h => absurd h (Nat.not_lt_zero j)⟩
    | skip
  all_goals obtain ⟨rfl,k,rfl,hk,hz⟩:=hrel
  all_goals (by_cases hlt:k < 16 - m.toNat)
  all_goals first
    | (exfalso; omega)
    | (have hlt2:(k:Int) < ((16 - m.toNat:Nat):Int):=by omega
       obtain ⟨z,hzz⟩:∃ z,AS[m.toNat + k]? = some z:=⟨_,List.getElem?_eq_getElem (by omega)⟩
       have hc:wr.cell? ⟨w.heap.size,1 + m.toNat + k,none⟩=some (.int .u32 z):=by
         rw [GO2.cell_of hbx,List.getElem?_toArray,show 1 + m.toNat + k=(m.toNat + k) + 1 from by omega,List.getElem?_cons_succ,List.getElem?_map,hzz]
         rfl
       have hk16:(k:Int) < 16:=by omega
       by_cases hz0:z=0
       · subst hz0
         clear hyes hno
         gi_wp2
         exact ⟨⟨trivial,k + 1,rfl,by omega,fun j hj => by
           by_cases e:j=k
           · rw [e]; exact hzz
           · exact hz j (by omega)⟩,by simp [intOf]; omega⟩
       · obtain rfl:r=1:=by rw [← hr,hno k z hzz hz0]; rfl
         clear hyes hno hr
         gi_wp2
         go_ret
         exact ⟨rfl,hBl⟩)
    | (have hlt3:16 - m.toNat ≤ k:=by omega
       obtain rfl:r=0:=by rw [← hr,hyes (fun j hj => hz j (by omega))]; rfl
       clear hyes hno hr
       have hlt2:¬ (k:Int) < ((16 - m.toNat:Nat):Int):=by omega
       first
         | (gi_wp2; go_ret; exact ⟨rfl,hBl⟩)
         | (obtain rfl:k=0:=by omega
            gi_wp2; go_ret; exact ⟨rfl,hBl⟩))
end Go.Proofs
