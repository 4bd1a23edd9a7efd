/- tags.groups, in the model: what it hands to the loop. No conditions. -/
import Derived.RangeFuncBox
import Derived.RangeFuncLeaves
import Derived.Shelf.Abstract
import Derived.WalkKit
import Derived.OwnWalkIn
import Derived.TacticsInMore
import Derived.LoopNIn
import Derived.LoopIn
import Derived.Maps.AppendAt
import Derived.Test.YtbiildmljbcmeaaDoorProg
import Derived.Test.YtbiildmljbcmeaaDoorTg
namespace Go.Proofs
open Go.RowKit Go.Shelf
attribute [local go_sem] Oper.semAt_some
set_option maxRecDepth 100000
set_option linter.unusedSimpArgs false
set_option linter.unusedVariables false
theorem G1.and_127 (x:Int) (h0:0 ≤ x) (h1:x < 256):bits .and .u8 x 127=x % 128:=by
  have:∀ n:Fin 256,bits .and .u8 (n.val:Int) 127=(n.val:Int) % 128:=by decide +kernel
  obtain ⟨n,rfl⟩:=Int.eq_ofNat_of_zero_le h0
  exact this ⟨n,by omega⟩
theorem G1.or_128 (x:Int) (h0:0 ≤ x) (h1:x < 128):bits .or .u8 x 128=x + 128:=by
  have:∀ n:Fin 128,bits .or .u8 (n.val:Int) 128=(n.val:Int) + 128:=by decide +kernel
  obtain ⟨n,rfl⟩:=Int.eq_ofNat_of_zero_le h0
  exact this ⟨n,by omega⟩
set_option maxHeartbeats 2000000 in
theorem G1.groups1_in (F:Fence) (n:Nat) (h6:F.fn 181) (hro:F.round=none) (hn:1 ≤ n) (l Bn:Nat) (v:Int) (v0:0 ≤ v) (v1:v < 268435456) (J Jx:List Int → World → Prop)
    (hY:∀ pre x W,J pre W → pre.length < (TG.grp v).length → YieldAt F (n - 1) Tryd.prog l #[.int .u8 x] W fun e W' =>
      (e=.returned (.bool true) ∧ J (pre ++ [x]) W' ∧ W'.cell? ⟨Bn,0,none⟩=W.cell? ⟨Bn,0,none⟩) ∨ (e=.returned (.bool false) ∧ Jx (pre ++ [x]) W'))
    (W:World) (hBn:W.cell? ⟨Bn,0,none⟩=some (.int .u32 v)) (h0:J [] W) :
    CallsIn F n Tryd.prog 181 #[.func (.yield l) #[] #[],.pointer (some ⟨Bn,0,none⟩)] W fun e W' => (∃ v,e=.returned v) ∧
      ((∃ ys,ys=TG.grp v ∧ J ys W') ∨ (∃ pre,pre <+: TG.grp v ∧ Jx pre W')):=by
  refine callsIn_of_wp Tryd.func181 rfl h6 ?_ hro
  simp only [Tryd.ntmps181,List.size_toArray,List.length_cons,List.length_nil,Nat.reduceAdd,Nat.reduceSub,Array.replicate_succ,Array.replicate_zero,List.push_toArray,List.append_toArray,List.nil_append,List.cons_append]
  gi_wp2
  gi_loopw [3] (fun p wr => wr=W ∧ ∃ k:Nat,p=.int .i64 (7 * k) ∧ k ≤ TG.top v)
    (fun p wr => 4 - (intOf p).toNat / 7)
  case atStart =>
    exact ⟨rfl,0,rfl,Nat.zero_le _⟩
  case round =>
    obtain ⟨rfl,k,rfl,hk⟩:=hrel
    have t3:TG.top v ≤ 3:=by unfold TG.top; split <;> (try split) <;> (try split) <;> omega
    have hk4:k=0 ∨ k=1 ∨ k=2 ∨ k=3:=by omega
    rcases hk4 with rfl | rfl | rfl | rfl
    · gi_wp2
      · refine ⟨⟨trivial,1,rfl,?_⟩,by simp [intOf]⟩
        unfold TG.top; split <;> (try split) <;> (try split) <;> omega
      · rename_i hh
        have ht:TG.top v=0:=by
          unfold TG.top at hk ⊢; repeat' split at hk
          all_goals first | rfl | (split <;> (try split) <;> (try split) <;> omega) | omega
        have hg:TG.grp v=[TG.oct v 0]:=by unfold TG.grp; rw [ht]; rfl
        gi_loopw [3] (fun p wr => ∃ (pre:List Int) (j:Nat),p=.int .i64 (7 * (j:Int) - 7) ∧ j ≤ 1 ∧ pre=(TG.grp v).take (1 - j) ∧ J pre wr ∧ wr.cell? ⟨Bn,0,none⟩=some (.int .u32 v))
          (fun p wr => (intOf p + 7).toNat)
        case atStart => exact ⟨[],1,rfl,Nat.le_refl _,rfl,h0,hBn⟩
        case round =>
          obtain ⟨pre,j,rfl,hj,hpre,hJ,hc⟩:=hrel
          have hj2:j=0 ∨ j=1:=by omega
          rcases hj2 with rfl | rfl
          · gi_wp2
            go_end0
            exact ⟨⟨_,rfl⟩,.inl ⟨pre,by rw [hpre,hg]; rfl,hJ⟩⟩
          · have e:bits .and .u8 v 127=TG.oct v 0:=by
              unfold TG.oct
              rw [G1.and_127 _ (by omega) (by omega)]
              simp only [Nat.reduceMul,Nat.reducePow,Int.reducePow,Nat.reduceEqDiff,if_true,if_false,Nat.mul_zero,Int.pow_zero,Int.ediv_one]
              try simp
              try omega
            obtain ⟨fn,tmps,assign,body,hy,hR⟩:=hY pre (TG.oct v 0) wr hJ (by rw [hpre,hg]; simp)
            gi_wp2
            refine hR.mono ?_
            rintro e2 W3 (⟨rfl,hJ3,hk3⟩ | ⟨rfl,hJx3⟩)
            · have hc3:=hk3.trans hc
              gi_wp2
              refine ⟨⟨_,_,_,_,_,_,_,_,_,_,_,_,_,_,_,_,_,_,_,⟨_,0,?ra,by omega,?rb,hJ3,hc3⟩,rfl⟩,?rm⟩
              case ra => simp
              case rb => rw [hpre,hg]; rfl
              case rm => simp [intOf]
            · gi_wp2
              refine bodyPost_ret (results_none rfl _ _ _) rfl ?_
              exact ⟨⟨_,rfl⟩,.inr ⟨_,by rw [hpre,hg]; exact ⟨[],rfl⟩,hJx3⟩⟩
    · gi_wp2
      · refine ⟨⟨trivial,2,rfl,?_⟩,by simp [intOf]⟩
        unfold TG.top; split <;> (try split) <;> (try split) <;> omega
      · rename_i hh
        have ht:TG.top v=1:=by
          unfold TG.top at hk ⊢; repeat' split at hk
          all_goals first | rfl | (split <;> (try split) <;> (try split) <;> omega) | omega
        have hg:TG.grp v=[TG.oct v 1,TG.oct v 0]:=by unfold TG.grp; rw [ht]; rfl
        gi_loopw [3] (fun p wr => ∃ (pre:List Int) (j:Nat),p=.int .i64 (7 * (j:Int) - 7) ∧ j ≤ 2 ∧ pre=(TG.grp v).take (2 - j) ∧ J pre wr ∧ wr.cell? ⟨Bn,0,none⟩=some (.int .u32 v))
          (fun p wr => (intOf p + 7).toNat)
        case atStart => exact ⟨[],2,rfl,Nat.le_refl _,rfl,h0,hBn⟩
        case round =>
          obtain ⟨pre,j,rfl,hj,hpre,hJ,hc⟩:=hrel
          have hj2:j=0 ∨ j=1 ∨ j=2:=by omega
          rcases hj2 with rfl | rfl | rfl
          · gi_wp2
            go_end0
            exact ⟨⟨_,rfl⟩,.inl ⟨pre,by rw [hpre,hg]; rfl,hJ⟩⟩
          · have e:bits .and .u8 (v % 256) 127=TG.oct v 0:=by
              unfold TG.oct
              rw [G1.and_127 _ (by omega) (by omega)]
              simp only [Nat.reduceMul,Nat.reducePow,Int.reducePow,Nat.reduceEqDiff,if_true,if_false,Nat.mul_zero,Int.pow_zero,Int.ediv_one]
              try simp
              try omega
            obtain ⟨fn,tmps,assign,body,hy,hR⟩:=hY pre (TG.oct v 0) wr hJ (by rw [hpre,hg]; simp)
            gi_wp2
            refine hR.mono ?_
            rintro e2 W3 (⟨rfl,hJ3,hk3⟩ | ⟨rfl,hJx3⟩)
            · have hc3:=hk3.trans hc
              gi_wp2
              refine ⟨⟨_,_,_,_,_,_,_,_,_,_,_,_,_,_,_,_,_,_,_,⟨_,0,?ra,by omega,?rb,hJ3,hc3⟩,rfl⟩,?rm⟩
              case ra => simp
              case rb => rw [hpre,hg]; rfl
              case rm => simp [intOf]
            · gi_wp2
              refine bodyPost_ret (results_none rfl _ _ _) rfl ?_
              exact ⟨⟨_,rfl⟩,.inr ⟨_,by rw [hpre,hg]; exact ⟨[],rfl⟩,hJx3⟩⟩
          · have e:bits .or .u8 (bits .and .u8 (v / 128) 127) 128=TG.oct v 1:=by
              unfold TG.oct
              rw [G1.or_128 _ (by have:=G1.and_127 (v / 128) (by omega) (by omega); omega) (by have:=G1.and_127 (v / 128) (by omega) (by omega); omega),G1.and_127 _ (by omega) (by omega)]
              simp only [Nat.reduceMul,Nat.reducePow,Int.reducePow,Nat.reduceEqDiff,if_true,if_false,Nat.mul_zero,Int.pow_zero,Int.ediv_one]
              try simp
              try omega
            obtain ⟨fn,tmps,assign,body,hy,hR⟩:=hY pre (TG.oct v 1) wr hJ (by rw [hpre,hg]; simp)
            gi_wp2
            refine hR.mono ?_
            rintro e2 W3 (⟨rfl,hJ3,hk3⟩ | ⟨rfl,hJx3⟩)
            · have hc3:=hk3.trans hc
              gi_wp2
              refine ⟨⟨_,_,_,_,_,_,_,_,_,_,_,_,_,_,_,_,_,_,_,⟨_,1,?ra,by omega,?rb,hJ3,hc3⟩,rfl⟩,?rm⟩
              case ra => simp
              case rb => rw [hpre,hg]; rfl
              case rm => simp [intOf]
            · gi_wp2
              refine bodyPost_ret (results_none rfl _ _ _) rfl ?_
              exact ⟨⟨_,rfl⟩,.inr ⟨_,by rw [hpre,hg]; exact ⟨[TG.oct v 0],rfl⟩,hJx3⟩⟩
    · gi_wp2
      · refine ⟨⟨trivial,3,rfl,?_⟩,by simp [intOf]⟩
        unfold TG.top; split <;> (try split) <;> (try split) <;> omega
      · rename_i hh
        have ht:TG.top v=2:=by
          unfold TG.top at hk ⊢; repeat' split at hk
          all_goals first | rfl | (split <;> (try split) <;> (try split) <;> omega) | omega
        have hg:TG.grp v=[TG.oct v 2,TG.oct v 1,TG.oct v 0]:=by unfold TG.grp; rw [ht]; rfl
        gi_loopw [3] (fun p wr => ∃ (pre:List Int) (j:Nat),p=.int .i64 (7 * (j:Int) - 7) ∧ j ≤ 3 ∧ pre=(TG.grp v).take (3 - j) ∧ J pre wr ∧ wr.cell? ⟨Bn,0,none⟩=some (.int .u32 v))
          (fun p wr => (intOf p + 7).toNat)
        case atStart => exact ⟨[],3,rfl,Nat.le_refl _,rfl,h0,hBn⟩
        case round =>
          obtain ⟨pre,j,rfl,hj,hpre,hJ,hc⟩:=hrel
          have hj2:j=0 ∨ j=1 ∨ j=2 ∨ j=3:=by omega
          rcases hj2 with rfl | rfl | rfl | rfl
          · gi_wp2
            go_end0
            exact ⟨⟨_,rfl⟩,.inl ⟨pre,by rw [hpre,hg]; rfl,hJ⟩⟩
          · have e:bits .and .u8 (v % 256) 127=TG.oct v 0:=by
              unfold TG.oct
              rw [G1.and_127 _ (by omega) (by omega)]
              simp only [Nat.reduceMul,Nat.reducePow,Int.reducePow,Nat.reduceEqDiff,if_true,if_false,Nat.mul_zero,Int.pow_zero,Int.ediv_one]
              try simp
              try omega
            obtain ⟨fn,tmps,assign,body,hy,hR⟩:=hY pre (TG.oct v 0) wr hJ (by rw [hpre,hg]; simp)
            gi_wp2
            refine hR.mono ?_
            rintro e2 W3 (⟨rfl,hJ3,hk3⟩ | ⟨rfl,hJx3⟩)
            · have hc3:=hk3.trans hc
              gi_wp2
              refine ⟨⟨_,_,_,_,_,_,_,_,_,_,_,_,_,_,_,_,_,_,_,⟨_,0,?ra,by omega,?rb,hJ3,hc3⟩,rfl⟩,?rm⟩
              case ra => simp
              case rb => rw [hpre,hg]; rfl
              case rm => simp [intOf]
            · gi_wp2
              refine bodyPost_ret (results_none rfl _ _ _) rfl ?_
              exact ⟨⟨_,rfl⟩,.inr ⟨_,by rw [hpre,hg]; exact ⟨[],rfl⟩,hJx3⟩⟩
          · have e:bits .or .u8 (bits .and .u8 ((v / 128) % 256) 127) 128=TG.oct v 1:=by
              unfold TG.oct
              rw [G1.or_128 _ (by have:=G1.and_127 (v / 128 % 256) (by omega) (by omega); omega) (by have:=G1.and_127 (v / 128 % 256) (by omega) (by omega); omega),G1.and_127 _ (by omega) (by omega)]
              simp only [Nat.reduceMul,Nat.reducePow,Int.reducePow,Nat.reduceEqDiff,if_true,if_false,Nat.mul_zero,Int.pow_zero,Int.ediv_one]
              try simp
              try omega
            obtain ⟨fn,tmps,assign,body,hy,hR⟩:=hY pre (TG.oct v 1) wr hJ (by rw [hpre,hg]; simp)
            gi_wp2
            refine hR.mono ?_
            rintro e2 W3 (⟨rfl,hJ3,hk3⟩ | ⟨rfl,hJx3⟩)
            · have hc3:=hk3.trans hc
              gi_wp2
              refine ⟨⟨_,_,_,_,_,_,_,_,_,_,_,_,_,_,_,_,_,_,_,⟨_,1,?ra,by omega,?rb,hJ3,hc3⟩,rfl⟩,?rm⟩
              case ra => simp
              case rb => rw [hpre,hg]; rfl
              case rm => simp [intOf]
            · gi_wp2
              refine bodyPost_ret (results_none rfl _ _ _) rfl ?_
              exact ⟨⟨_,rfl⟩,.inr ⟨_,by rw [hpre,hg]; exact ⟨[TG.oct v 0],rfl⟩,hJx3⟩⟩
          · have e:bits .or .u8 (bits .and .u8 (v / 16384) 127) 128=TG.oct v 2:=by
              unfold TG.oct
              rw [G1.or_128 _ (by have:=G1.and_127 (v / 16384) (by omega) (by omega); omega) (by have:=G1.and_127 (v / 16384) (by omega) (by omega); omega),G1.and_127 _ (by omega) (by omega)]
              simp only [Nat.reduceMul,Nat.reducePow,Int.reducePow,Nat.reduceEqDiff,if_true,if_false,Nat.mul_zero,Int.pow_zero,Int.ediv_one]
              try simp
              try omega
            obtain ⟨fn,tmps,assign,body,hy,hR⟩:=hY pre (TG.oct v 2) wr hJ (by rw [hpre,hg]; simp)
            gi_wp2
            refine hR.mono ?_
            rintro e2 W3 (⟨rfl,hJ3,hk3⟩ | ⟨rfl,hJx3⟩)
            · have hc3:=hk3.trans hc
              gi_wp2
              refine ⟨⟨_,_,_,_,_,_,_,_,_,_,_,_,_,_,_,_,_,_,_,⟨_,2,?ra,by omega,?rb,hJ3,hc3⟩,rfl⟩,?rm⟩
              case ra => simp
              case rb => rw [hpre,hg]; rfl
              case rm => simp [intOf]
            · gi_wp2
              refine bodyPost_ret (results_none rfl _ _ _) rfl ?_
              exact ⟨⟨_,rfl⟩,.inr ⟨_,by rw [hpre,hg]; exact ⟨[TG.oct v 1,TG.oct v 0],rfl⟩,hJx3⟩⟩
    · gi_wp2
      have ht:TG.top v=3:=by omega
      have hg:TG.grp v=[TG.oct v 3,TG.oct v 2,TG.oct v 1,TG.oct v 0]:=by unfold TG.grp; rw [ht]; rfl
      gi_loopw [3] (fun p wr => ∃ (pre:List Int) (j:Nat),p=.int .i64 (7 * (j:Int) - 7) ∧ j ≤ 4 ∧ pre=(TG.grp v).take (4 - j) ∧ J pre wr ∧ wr.cell? ⟨Bn,0,none⟩=some (.int .u32 v))
        (fun p wr => (intOf p + 7).toNat)
      case atStart => exact ⟨[],4,rfl,Nat.le_refl _,rfl,h0,hBn⟩
      case round =>
        obtain ⟨pre,j,rfl,hj,hpre,hJ,hc⟩:=hrel
        have hj2:j=0 ∨ j=1 ∨ j=2 ∨ j=3 ∨ j=4:=by omega
        rcases hj2 with rfl | rfl | rfl | rfl | rfl
        · gi_wp2
          go_end0
          exact ⟨⟨_,rfl⟩,.inl ⟨pre,by rw [hpre,hg]; rfl,hJ⟩⟩
        · have e:bits .and .u8 (v % 256) 127=TG.oct v 0:=by
            unfold TG.oct
            rw [G1.and_127 _ (by omega) (by omega)]
            simp only [Nat.reduceMul,Nat.reducePow,Int.reducePow,Nat.reduceEqDiff,if_true,if_false,Nat.mul_zero,Int.pow_zero,Int.ediv_one]
            try simp
            try omega
          obtain ⟨fn,tmps,assign,body,hy,hR⟩:=hY pre (TG.oct v 0) wr hJ (by rw [hpre,hg]; simp)
          gi_wp2
          refine hR.mono ?_
          rintro e2 W3 (⟨rfl,hJ3,hk3⟩ | ⟨rfl,hJx3⟩)
          · have hc3:=hk3.trans hc
            gi_wp2
            refine ⟨⟨_,_,_,_,_,_,_,_,_,_,_,_,_,_,_,_,_,_,_,⟨_,0,?ra,by omega,?rb,hJ3,hc3⟩,rfl⟩,?rm⟩
            case ra => simp
            case rb => rw [hpre,hg]; rfl
            case rm => simp [intOf]
          · gi_wp2
            refine bodyPost_ret (results_none rfl _ _ _) rfl ?_
            exact ⟨⟨_,rfl⟩,.inr ⟨_,by rw [hpre,hg]; exact ⟨[],rfl⟩,hJx3⟩⟩
        · have e:bits .or .u8 (bits .and .u8 ((v / 128) % 256) 127) 128=TG.oct v 1:=by
            unfold TG.oct
            rw [G1.or_128 _ (by have:=G1.and_127 (v / 128 % 256) (by omega) (by omega); omega) (by have:=G1.and_127 (v / 128 % 256) (by omega) (by omega); omega),G1.and_127 _ (by omega) (by omega)]
            simp only [Nat.reduceMul,Nat.reducePow,Int.reducePow,Nat.reduceEqDiff,if_true,if_false,Nat.mul_zero,Int.pow_zero,Int.ediv_one]
            try simp
            try omega
          obtain ⟨fn,tmps,assign,body,hy,hR⟩:=hY pre (TG.oct v 1) wr hJ (by rw [hpre,hg]; simp)
          gi_wp2
          refine hR.mono ?_
          rintro e2 W3 (⟨rfl,hJ3,hk3⟩ | ⟨rfl,hJx3⟩)
          · have hc3:=hk3.trans hc
            gi_wp2
            refine ⟨⟨_,_,_,_,_,_,_,_,_,_,_,_,_,_,_,_,_,_,_,⟨_,1,?ra,by omega,?rb,hJ3,hc3⟩,rfl⟩,?rm⟩
            case ra => simp
            case rb => rw [hpre,hg]; rfl
            case rm => simp [intOf]
          · gi_wp2
            refine bodyPost_ret (results_none rfl _ _ _) rfl ?_
            exact ⟨⟨_,rfl⟩,.inr ⟨_,by rw [hpre,hg]; exact ⟨[TG.oct v 0],rfl⟩,hJx3⟩⟩
        · have e:bits .or .u8 (bits .and .u8 ((v / 16384) % 256) 127) 128=TG.oct v 2:=by
            unfold TG.oct
            rw [G1.or_128 _ (by have:=G1.and_127 (v / 16384 % 256) (by omega) (by omega); omega) (by have:=G1.and_127 (v / 16384 % 256) (by omega) (by omega); omega),G1.and_127 _ (by omega) (by omega)]
            simp only [Nat.reduceMul,Nat.reducePow,Int.reducePow,Nat.reduceEqDiff,if_true,if_false,Nat.mul_zero,Int.pow_zero,Int.ediv_one]
            try simp
            try omega
          obtain ⟨fn,tmps,assign,body,hy,hR⟩:=hY pre (TG.oct v 2) wr hJ (by rw [hpre,hg]; simp)
          gi_wp2
          refine hR.mono ?_
          rintro e2 W3 (⟨rfl,hJ3,hk3⟩ | ⟨rfl,hJx3⟩)
          · have hc3:=hk3.trans hc
            gi_wp2
            refine ⟨⟨_,_,_,_,_,_,_,_,_,_,_,_,_,_,_,_,_,_,_,⟨_,2,?ra,by omega,?rb,hJ3,hc3⟩,rfl⟩,?rm⟩
            case ra => simp
            case rb => rw [hpre,hg]; rfl
            case rm => simp [intOf]
          · gi_wp2
            refine bodyPost_ret (results_none rfl _ _ _) rfl ?_
            exact ⟨⟨_,rfl⟩,.inr ⟨_,by rw [hpre,hg]; exact ⟨[TG.oct v 1,TG.oct v 0],rfl⟩,hJx3⟩⟩
        · have e:bits .or .u8 (bits .and .u8 (v / 2097152) 127) 128=TG.oct v 3:=by
            unfold TG.oct
            rw [G1.or_128 _ (by have:=G1.and_127 (v / 2097152) (by omega) (by omega); omega) (by have:=G1.and_127 (v / 2097152) (by omega) (by omega); omega),G1.and_127 _ (by omega) (by omega)]
            simp only [Nat.reduceMul,Nat.reducePow,Int.reducePow,Nat.reduceEqDiff,if_true,if_false,Nat.mul_zero,Int.pow_zero,Int.ediv_one]
            try simp
            try omega
          obtain ⟨fn,tmps,assign,body,hy,hR⟩:=hY pre (TG.oct v 3) wr hJ (by rw [hpre,hg]; simp)
          gi_wp2
          refine hR.mono ?_
          rintro e2 W3 (⟨rfl,hJ3,hk3⟩ | ⟨rfl,hJx3⟩)
          · have hc3:=hk3.trans hc
            gi_wp2
            refine ⟨⟨_,_,_,_,_,_,_,_,_,_,_,_,_,_,_,_,_,_,_,⟨_,3,?ra,by omega,?rb,hJ3,hc3⟩,rfl⟩,?rm⟩
            case ra => simp
            case rb => rw [hpre,hg]; rfl
            case rm => simp [intOf]
          · gi_wp2
            refine bodyPost_ret (results_none rfl _ _ _) rfl ?_
            exact ⟨⟨_,rfl⟩,.inr ⟨_,by rw [hpre,hg]; exact ⟨[TG.oct v 2,TG.oct v 1,TG.oct v 0],rfl⟩,hJx3⟩⟩
end Go.Proofs
