/- oids.groups, in the model: what it hands to the loop. Written by mkgo1.py. No conditions. -/
import Derived.RangeFuncBox
import Derived.RangeFuncLeaves
import Derived.Shelf.Abstract
import Derived.WalkKit
import Derived.OwnWalkIn
import Derived.TacticsInMore
import Derived.LoopNIn
import Derived.LoopIn
import Derived.Maps.AppendAt
import Derived.Test.YtbiildmljbcmeaaDoorProg
import Derived.Test.YtbiildmljbcmeaaDoorOG
namespace Go.Proofs
open Go.RowKit Go.Shelf
attribute [local go_sem] Oper.semAt_some
set_option maxRecDepth 100000
set_option linter.unusedSimpArgs false
set_option linter.unusedVariables false
theorem GO1.and_127 (x:Int) (h0:0 ≤ x) (h1:x < 256):bits .and .u8 x 127=x % 128:=by
  have:∀ n:Fin 256,bits .and .u8 (n.val:Int) 127=(n.val:Int) % 128:=by decide +kernel
  obtain ⟨n,rfl⟩:=Int.eq_ofNat_of_zero_le h0
  exact this ⟨n,by omega⟩
theorem GO1.or_128 (x:Int) (h0:0 ≤ x) (h1:x < 256):bits .or .u8 x 128=x % 128 + 128:=by
  have:∀ n:Fin 256,bits .or .u8 (n.val:Int) 128=(n.val:Int) % 128 + 128:=by decide +kernel
  obtain ⟨n,rfl⟩:=Int.eq_ofNat_of_zero_le h0
  exact this ⟨n,by omega⟩
set_option maxHeartbeats 4000000 in
theorem GO1.groups1_in (F:Fence) (n:Nat) (h6:F.fn 166) (hro:F.round=none) (hn:1 ≤ n) (l Bn:Nat) (v:Int) (v0:0 ≤ v) (v1:v < 4294967296) (J Jx:List Int → World → Prop)
    (hY:∀ pre x W,J pre W → pre.length < (OG.grp v).length → YieldAt F (n - 1) Tryd.prog l #[.int .u8 x] W fun e W' =>
      (e=.returned (.bool true) ∧ J (pre ++ [x]) W' ∧ W'.cell? ⟨Bn,0,none⟩=W.cell? ⟨Bn,0,none⟩) ∨ (e=.returned (.bool false) ∧ Jx (pre ++ [x]) W'))
    (W:World) (hBn:W.cell? ⟨Bn,0,none⟩=some (.int .u32 v)) (h0:J [] W) :
    CallsIn F n Tryd.prog 166 #[.func (.yield l) #[] #[],.pointer (some ⟨Bn,0,none⟩)] W fun e W' => (∃ v,e=.returned v) ∧
      ((∃ ys,ys=OG.grp v ∧ J ys W') ∨ (∃ pre,pre <+: OG.grp v ∧ Jx pre W')):=by
  refine callsIn_of_wp Tryd.func166 rfl h6 ?_ hro
  simp only [Tryd.ntmps166,List.size_toArray,List.length_cons,List.length_nil,Nat.reduceAdd,Nat.reduceSub,Array.replicate_succ,Array.replicate_zero,List.push_toArray,List.append_toArray,List.nil_append,List.cons_append]
  gi_wp2
  gi_loopw [3] (fun p wr => wr=W ∧ ∃ k:Nat,p=.int .i64 (7 * k) ∧ OG.top v ≤ k ∧ k ≤ 4)
    (fun p wr => (intOf p).toNat)
  case atStart =>
    exact ⟨rfl,4,rfl,OG.top_le v,Nat.le_refl _⟩
  case round =>
    obtain ⟨rfl,k,rfl,hk,hk4⟩:=hrel
    have hk5:k=0 ∨ k=1 ∨ k=2 ∨ k=3 ∨ k=4:=by omega
    rcases hk5 with rfl | rfl | rfl | rfl | rfl
    · have tk:OG.top v ≤ 0:=hk
      gi_wp2
      have ht:OG.top v=0:=OG.top_is v 0 tk (.inl rfl) v0 (by omega)
      have hg:OG.grp v=[OG.oct v 0]:=by unfold OG.grp; simp only [ht]
      gi_loopw [3] (fun p wr => ∃ (pre:List Int) (j:Nat),p=.int .i64 (7 * (j:Int)) ∧ j ≤ 0 ∧ pre=(OG.grp v).take (0 - j) ∧ J pre wr ∧ wr.cell? ⟨Bn,0,none⟩=some (.int .u32 v))
        (fun p wr => (intOf p).toNat)
      case atStart => exact ⟨[],0,rfl,Nat.le_refl _,by simp,h0,hBn⟩
      case round =>
        obtain ⟨pre,j,rfl,hj,hpre,hJ,hc⟩:=hrel
        have hj2:j=0:=by omega
        rcases hj2 with rfl
        · skip
          have e0:bits .and .u8 (v % 256) 127=OG.oct v 0:=by
            unfold OG.oct
            rw [GO1.and_127 _ (by omega) (by omega)]
            simp
            try omega
          obtain ⟨fn,tmps,assign,body,hy,hR⟩:=hY pre (OG.oct v 0) wr hJ (by rw [hpre,hg]; simp)
          gi_wp2
          refine hR.mono ?_
          rintro e2 W3 (⟨rfl,hJ3,hk3⟩ | ⟨rfl,hJx3⟩)
          · gi_wp2
            go_end0
            exact ⟨⟨_,rfl⟩,.inl ⟨_,by rw [hpre,hg]; rfl,hJ3⟩⟩
          · gi_wp2
            go_end0
            exact ⟨⟨_,rfl⟩,.inr ⟨_,by rw [hpre,hg]; exact ⟨[],rfl⟩,hJx3⟩⟩
    · have tk:OG.top v ≤ 1:=hk
      gi_wp2
      · exact ⟨⟨trivial,0,rfl,OG.top_pred v 0 tk (by simp_all) v0 (by omega),by omega⟩,by simp [intOf]⟩
      rename_i hh
      have ht:OG.top v=1:=OG.top_is v 1 tk (.inr (by simp_all)) v0 (by omega)
      have hg:OG.grp v=[OG.oct v 1,OG.oct v 0]:=by unfold OG.grp; simp only [ht]
      have hb:(v / 128 == 0)=false:=by simp_all
      simp only [hb]
      gi_loopw [3] (fun p wr => ∃ (pre:List Int) (j:Nat),p=.int .i64 (7 * (j:Int)) ∧ j ≤ 1 ∧ pre=(OG.grp v).take (1 - j) ∧ J pre wr ∧ wr.cell? ⟨Bn,0,none⟩=some (.int .u32 v))
        (fun p wr => (intOf p).toNat)
      case atStart => exact ⟨[],1,rfl,Nat.le_refl _,by simp,h0,hBn⟩
      case round =>
        obtain ⟨pre,j,rfl,hj,hpre,hJ,hc⟩:=hrel
        have hj2:j=0 ∨ j=1:=by omega
        rcases hj2 with rfl | rfl
        · skip
          have e0:bits .and .u8 (v % 256) 127=OG.oct v 0:=by
            unfold OG.oct
            rw [GO1.and_127 _ (by omega) (by omega)]
            simp
            try omega
          obtain ⟨fn,tmps,assign,body,hy,hR⟩:=hY pre (OG.oct v 0) wr hJ (by rw [hpre,hg]; simp)
          gi_wp2
          refine hR.mono ?_
          rintro e2 W3 (⟨rfl,hJ3,hk3⟩ | ⟨rfl,hJx3⟩)
          · gi_wp2
            go_end0
            exact ⟨⟨_,rfl⟩,.inl ⟨_,by rw [hpre,hg]; rfl,hJ3⟩⟩
          · gi_wp2
            go_end0
            exact ⟨⟨_,rfl⟩,.inr ⟨_,by rw [hpre,hg]; exact ⟨[],rfl⟩,hJx3⟩⟩
        · have e:bits .or .u8 ((v / 128) % 256) 128=OG.oct v 1:=by
            unfold OG.oct
            rw [GO1.or_128 _ (by omega) (by omega)]
            simp
            try omega
          obtain ⟨fn,tmps,assign,body,hy,hR⟩:=hY pre (OG.oct v 1) wr hJ (by rw [hpre,hg]; simp)
          gi_wp2
          refine hR.mono ?_
          rintro e2 W3 (⟨rfl,hJ3,hk3⟩ | ⟨rfl,hJx3⟩)
          · have hc3:=hk3.trans hc
            gi_wp2
            refine ⟨⟨_,_,_,_,_,_,_,_,_,_,_,_,_,⟨_,0,?ra,by omega,?rb,hJ3,hc3⟩,rfl⟩,?rm⟩
            case ra => simp
            case rb => rw [hpre,hg]; rfl
            case rm => simp [intOf]
          · gi_wp2
            refine bodyPost_ret (results_none rfl _ _ _) rfl ?_
            exact ⟨⟨_,rfl⟩,.inr ⟨_,by rw [hpre,hg]; exact ⟨[OG.oct v 0],rfl⟩,hJx3⟩⟩
    · have tk:OG.top v ≤ 2:=hk
      gi_wp2
      · exact ⟨⟨trivial,1,rfl,OG.top_pred v 1 tk (by simp_all) v0 (by omega),by omega⟩,by simp [intOf]⟩
      rename_i hh
      have ht:OG.top v=2:=OG.top_is v 2 tk (.inr (by simp_all)) v0 (by omega)
      have hg:OG.grp v=[OG.oct v 2,OG.oct v 1,OG.oct v 0]:=by unfold OG.grp; simp only [ht]
      have hb:(v / 16384 == 0)=false:=by simp_all
      simp only [hb]
      gi_loopw [3] (fun p wr => ∃ (pre:List Int) (j:Nat),p=.int .i64 (7 * (j:Int)) ∧ j ≤ 2 ∧ pre=(OG.grp v).take (2 - j) ∧ J pre wr ∧ wr.cell? ⟨Bn,0,none⟩=some (.int .u32 v))
        (fun p wr => (intOf p).toNat)
      case atStart => exact ⟨[],2,rfl,Nat.le_refl _,by simp,h0,hBn⟩
      case round =>
        obtain ⟨pre,j,rfl,hj,hpre,hJ,hc⟩:=hrel
        have hj2:j=0 ∨ j=1 ∨ j=2:=by omega
        rcases hj2 with rfl | rfl | rfl
        · skip
          have e0:bits .and .u8 (v % 256) 127=OG.oct v 0:=by
            unfold OG.oct
            rw [GO1.and_127 _ (by omega) (by omega)]
            simp
            try omega
          obtain ⟨fn,tmps,assign,body,hy,hR⟩:=hY pre (OG.oct v 0) wr hJ (by rw [hpre,hg]; simp)
          gi_wp2
          refine hR.mono ?_
          rintro e2 W3 (⟨rfl,hJ3,hk3⟩ | ⟨rfl,hJx3⟩)
          · gi_wp2
            go_end0
            exact ⟨⟨_,rfl⟩,.inl ⟨_,by rw [hpre,hg]; rfl,hJ3⟩⟩
          · gi_wp2
            go_end0
            exact ⟨⟨_,rfl⟩,.inr ⟨_,by rw [hpre,hg]; exact ⟨[],rfl⟩,hJx3⟩⟩
        · have e:bits .or .u8 ((v / 128) % 256) 128=OG.oct v 1:=by
            unfold OG.oct
            rw [GO1.or_128 _ (by omega) (by omega)]
            simp
            try omega
          obtain ⟨fn,tmps,assign,body,hy,hR⟩:=hY pre (OG.oct v 1) wr hJ (by rw [hpre,hg]; simp)
          gi_wp2
          refine hR.mono ?_
          rintro e2 W3 (⟨rfl,hJ3,hk3⟩ | ⟨rfl,hJx3⟩)
          · have hc3:=hk3.trans hc
            gi_wp2
            refine ⟨⟨_,_,_,_,_,_,_,_,_,_,_,_,_,⟨_,0,?ra,by omega,?rb,hJ3,hc3⟩,rfl⟩,?rm⟩
            case ra => simp
            case rb => rw [hpre,hg]; rfl
            case rm => simp [intOf]
          · gi_wp2
            refine bodyPost_ret (results_none rfl _ _ _) rfl ?_
            exact ⟨⟨_,rfl⟩,.inr ⟨_,by rw [hpre,hg]; exact ⟨[OG.oct v 0],rfl⟩,hJx3⟩⟩
        · have e:bits .or .u8 ((v / 16384) % 256) 128=OG.oct v 2:=by
            unfold OG.oct
            rw [GO1.or_128 _ (by omega) (by omega)]
            simp
            try omega
          obtain ⟨fn,tmps,assign,body,hy,hR⟩:=hY pre (OG.oct v 2) wr hJ (by rw [hpre,hg]; simp)
          gi_wp2
          refine hR.mono ?_
          rintro e2 W3 (⟨rfl,hJ3,hk3⟩ | ⟨rfl,hJx3⟩)
          · have hc3:=hk3.trans hc
            gi_wp2
            refine ⟨⟨_,_,_,_,_,_,_,_,_,_,_,_,_,⟨_,1,?ra,by omega,?rb,hJ3,hc3⟩,rfl⟩,?rm⟩
            case ra => simp
            case rb => rw [hpre,hg]; rfl
            case rm => simp [intOf]
          · gi_wp2
            refine bodyPost_ret (results_none rfl _ _ _) rfl ?_
            exact ⟨⟨_,rfl⟩,.inr ⟨_,by rw [hpre,hg]; exact ⟨[OG.oct v 1,OG.oct v 0],rfl⟩,hJx3⟩⟩
    · have tk:OG.top v ≤ 3:=hk
      gi_wp2
      · exact ⟨⟨trivial,2,rfl,OG.top_pred v 2 tk (by simp_all) v0 (by omega),by omega⟩,by simp [intOf]⟩
      rename_i hh
      have ht:OG.top v=3:=OG.top_is v 3 tk (.inr (by simp_all)) v0 (by omega)
      have hg:OG.grp v=[OG.oct v 3,OG.oct v 2,OG.oct v 1,OG.oct v 0]:=by unfold OG.grp; simp only [ht]
      have hb:(v / 2097152 == 0)=false:=by simp_all
      simp only [hb]
      gi_loopw [3] (fun p wr => ∃ (pre:List Int) (j:Nat),p=.int .i64 (7 * (j:Int)) ∧ j ≤ 3 ∧ pre=(OG.grp v).take (3 - j) ∧ J pre wr ∧ wr.cell? ⟨Bn,0,none⟩=some (.int .u32 v))
        (fun p wr => (intOf p).toNat)
      case atStart => exact ⟨[],3,rfl,Nat.le_refl _,by simp,h0,hBn⟩
      case round =>
        obtain ⟨pre,j,rfl,hj,hpre,hJ,hc⟩:=hrel
        have hj2:j=0 ∨ j=1 ∨ j=2 ∨ j=3:=by omega
        rcases hj2 with rfl | rfl | rfl | rfl
        · skip
          have e0:bits .and .u8 (v % 256) 127=OG.oct v 0:=by
            unfold OG.oct
            rw [GO1.and_127 _ (by omega) (by omega)]
            simp
            try omega
          obtain ⟨fn,tmps,assign,body,hy,hR⟩:=hY pre (OG.oct v 0) wr hJ (by rw [hpre,hg]; simp)
          gi_wp2
          refine hR.mono ?_
          rintro e2 W3 (⟨rfl,hJ3,hk3⟩ | ⟨rfl,hJx3⟩)
          · gi_wp2
            go_end0
            exact ⟨⟨_,rfl⟩,.inl ⟨_,by rw [hpre,hg]; rfl,hJ3⟩⟩
          · gi_wp2
            go_end0
            exact ⟨⟨_,rfl⟩,.inr ⟨_,by rw [hpre,hg]; exact ⟨[],rfl⟩,hJx3⟩⟩
        · have e:bits .or .u8 ((v / 128) % 256) 128=OG.oct v 1:=by
            unfold OG.oct
            rw [GO1.or_128 _ (by omega) (by omega)]
            simp
            try omega
          obtain ⟨fn,tmps,assign,body,hy,hR⟩:=hY pre (OG.oct v 1) wr hJ (by rw [hpre,hg]; simp)
          gi_wp2
          refine hR.mono ?_
          rintro e2 W3 (⟨rfl,hJ3,hk3⟩ | ⟨rfl,hJx3⟩)
          · have hc3:=hk3.trans hc
            gi_wp2
            refine ⟨⟨_,_,_,_,_,_,_,_,_,_,_,_,_,⟨_,0,?ra,by omega,?rb,hJ3,hc3⟩,rfl⟩,?rm⟩
            case ra => simp
            case rb => rw [hpre,hg]; rfl
            case rm => simp [intOf]
          · gi_wp2
            refine bodyPost_ret (results_none rfl _ _ _) rfl ?_
            exact ⟨⟨_,rfl⟩,.inr ⟨_,by rw [hpre,hg]; exact ⟨[OG.oct v 0],rfl⟩,hJx3⟩⟩
        · have e:bits .or .u8 ((v / 16384) % 256) 128=OG.oct v 2:=by
            unfold OG.oct
            rw [GO1.or_128 _ (by omega) (by omega)]
            simp
            try omega
          obtain ⟨fn,tmps,assign,body,hy,hR⟩:=hY pre (OG.oct v 2) wr hJ (by rw [hpre,hg]; simp)
          gi_wp2
          refine hR.mono ?_
          rintro e2 W3 (⟨rfl,hJ3,hk3⟩ | ⟨rfl,hJx3⟩)
          · have hc3:=hk3.trans hc
            gi_wp2
            refine ⟨⟨_,_,_,_,_,_,_,_,_,_,_,_,_,⟨_,1,?ra,by omega,?rb,hJ3,hc3⟩,rfl⟩,?rm⟩
            case ra => simp
            case rb => rw [hpre,hg]; rfl
            case rm => simp [intOf]
          · gi_wp2
            refine bodyPost_ret (results_none rfl _ _ _) rfl ?_
            exact ⟨⟨_,rfl⟩,.inr ⟨_,by rw [hpre,hg]; exact ⟨[OG.oct v 1,OG.oct v 0],rfl⟩,hJx3⟩⟩
        · have e:bits .or .u8 ((v / 2097152) % 256) 128=OG.oct v 3:=by
            unfold OG.oct
            rw [GO1.or_128 _ (by omega) (by omega)]
            simp
            try omega
          obtain ⟨fn,tmps,assign,body,hy,hR⟩:=hY pre (OG.oct v 3) wr hJ (by rw [hpre,hg]; simp)
          gi_wp2
          refine hR.mono ?_
          rintro e2 W3 (⟨rfl,hJ3,hk3⟩ | ⟨rfl,hJx3⟩)
          · have hc3:=hk3.trans hc
            gi_wp2
            refine ⟨⟨_,_,_,_,_,_,_,_,_,_,_,_,_,⟨_,2,?ra,by omega,?rb,hJ3,hc3⟩,rfl⟩,?rm⟩
            case ra => simp
            case rb => rw [hpre,hg]; rfl
            case rm => simp [intOf]
          · gi_wp2
            refine bodyPost_ret (results_none rfl _ _ _) rfl ?_
            exact ⟨⟨_,rfl⟩,.inr ⟨_,by rw [hpre,hg]; exact ⟨[OG.oct v 2,OG.oct v 1,OG.oct v 0],rfl⟩,hJx3⟩⟩
    · have tk:OG.top v ≤ 4:=hk
      gi_wp2
      · exact ⟨⟨trivial,3,rfl,OG.top_pred v 3 tk (by simp_all) v0 (by omega),by omega⟩,by simp [intOf]⟩
      rename_i hh
      have ht:OG.top v=4:=OG.top_is v 4 tk (.inr (by simp_all)) v0 (by omega)
      have hg:OG.grp v=[OG.oct v 4,OG.oct v 3,OG.oct v 2,OG.oct v 1,OG.oct v 0]:=by unfold OG.grp; simp only [ht]
      have hb:(v / 268435456 == 0)=false:=by simp_all
      simp only [hb]
      gi_loopw [3] (fun p wr => ∃ (pre:List Int) (j:Nat),p=.int .i64 (7 * (j:Int)) ∧ j ≤ 4 ∧ pre=(OG.grp v).take (4 - j) ∧ J pre wr ∧ wr.cell? ⟨Bn,0,none⟩=some (.int .u32 v))
        (fun p wr => (intOf p).toNat)
      case atStart => exact ⟨[],4,rfl,Nat.le_refl _,by simp,h0,hBn⟩
      case round =>
        obtain ⟨pre,j,rfl,hj,hpre,hJ,hc⟩:=hrel
        have hj2:j=0 ∨ j=1 ∨ j=2 ∨ j=3 ∨ j=4:=by omega
        rcases hj2 with rfl | rfl | rfl | rfl | rfl
        · skip
          have e0:bits .and .u8 (v % 256) 127=OG.oct v 0:=by
            unfold OG.oct
            rw [GO1.and_127 _ (by omega) (by omega)]
            simp
            try omega
          obtain ⟨fn,tmps,assign,body,hy,hR⟩:=hY pre (OG.oct v 0) wr hJ (by rw [hpre,hg]; simp)
          gi_wp2
          refine hR.mono ?_
          rintro e2 W3 (⟨rfl,hJ3,hk3⟩ | ⟨rfl,hJx3⟩)
          · gi_wp2
            go_end0
            exact ⟨⟨_,rfl⟩,.inl ⟨_,by rw [hpre,hg]; rfl,hJ3⟩⟩
          · gi_wp2
            go_end0
            exact ⟨⟨_,rfl⟩,.inr ⟨_,by rw [hpre,hg]; exact ⟨[],rfl⟩,hJx3⟩⟩
        · have e:bits .or .u8 ((v / 128) % 256) 128=OG.oct v 1:=by
            unfold OG.oct
            rw [GO1.or_128 _ (by omega) (by omega)]
            simp
            try omega
          obtain ⟨fn,tmps,assign,body,hy,hR⟩:=hY pre (OG.oct v 1) wr hJ (by rw [hpre,hg]; simp)
          gi_wp2
          refine hR.mono ?_
          rintro e2 W3 (⟨rfl,hJ3,hk3⟩ | ⟨rfl,hJx3⟩)
          · have hc3:=hk3.trans hc
            gi_wp2
            refine ⟨⟨_,_,_,_,_,_,_,_,_,_,_,_,_,⟨_,0,?ra,by omega,?rb,hJ3,hc3⟩,rfl⟩,?rm⟩
            case ra => simp
            case rb => rw [hpre,hg]; rfl
            case rm => simp [intOf]
          · gi_wp2
            refine bodyPost_ret (results_none rfl _ _ _) rfl ?_
            exact ⟨⟨_,rfl⟩,.inr ⟨_,by rw [hpre,hg]; exact ⟨[OG.oct v 0],rfl⟩,hJx3⟩⟩
        · have e:bits .or .u8 ((v / 16384) % 256) 128=OG.oct v 2:=by
            unfold OG.oct
            rw [GO1.or_128 _ (by omega) (by omega)]
            simp
            try omega
          obtain ⟨fn,tmps,assign,body,hy,hR⟩:=hY pre (OG.oct v 2) wr hJ (by rw [hpre,hg]; simp)
          gi_wp2
          refine hR.mono ?_
          rintro e2 W3 (⟨rfl,hJ3,hk3⟩ | ⟨rfl,hJx3⟩)
          · have hc3:=hk3.trans hc
            gi_wp2
            refine ⟨⟨_,_,_,_,_,_,_,_,_,_,_,_,_,⟨_,1,?ra,by omega,?rb,hJ3,hc3⟩,rfl⟩,?rm⟩
            case ra => simp
            case rb => rw [hpre,hg]; rfl
            case rm => simp [intOf]
          · gi_wp2
            refine bodyPost_ret (results_none rfl _ _ _) rfl ?_
            exact ⟨⟨_,rfl⟩,.inr ⟨_,by rw [hpre,hg]; exact ⟨[OG.oct v 1,OG.oct v 0],rfl⟩,hJx3⟩⟩
        · have e:bits .or .u8 ((v / 2097152) % 256) 128=OG.oct v 3:=by
            unfold OG.oct
            rw [GO1.or_128 _ (by omega) (by omega)]
            simp
            try omega
          obtain ⟨fn,tmps,assign,body,hy,hR⟩:=hY pre (OG.oct v 3) wr hJ (by rw [hpre,hg]; simp)
          gi_wp2
          refine hR.mono ?_
          rintro e2 W3 (⟨rfl,hJ3,hk3⟩ | ⟨rfl,hJx3⟩)
          · have hc3:=hk3.trans hc
            gi_wp2
            refine ⟨⟨_,_,_,_,_,_,_,_,_,_,_,_,_,⟨_,2,?ra,by omega,?rb,hJ3,hc3⟩,rfl⟩,?rm⟩
            case ra => simp
            case rb => rw [hpre,hg]; rfl
            case rm => simp [intOf]
          · gi_wp2
            refine bodyPost_ret (results_none rfl _ _ _) rfl ?_
            exact ⟨⟨_,rfl⟩,.inr ⟨_,by rw [hpre,hg]; exact ⟨[OG.oct v 2,OG.oct v 1,OG.oct v 0],rfl⟩,hJx3⟩⟩
        · have e:bits .or .u8 (v / 268435456) 128=OG.oct v 4:=by
            unfold OG.oct
            rw [GO1.or_128 _ (by omega) (by omega)]
            simp
            try omega
          obtain ⟨fn,tmps,assign,body,hy,hR⟩:=hY pre (OG.oct v 4) wr hJ (by rw [hpre,hg]; simp)
          gi_wp2
          refine hR.mono ?_
          rintro e2 W3 (⟨rfl,hJ3,hk3⟩ | ⟨rfl,hJx3⟩)
          · have hc3:=hk3.trans hc
            gi_wp2
            refine ⟨⟨_,_,_,_,_,_,_,_,_,_,_,_,_,⟨_,3,?ra,by omega,?rb,hJ3,hc3⟩,rfl⟩,?rm⟩
            case ra => simp
            case rb => rw [hpre,hg]; rfl
            case rm => simp [intOf]
          · gi_wp2
            refine bodyPost_ret (results_none rfl _ _ _) rfl ?_
            exact ⟨⟨_,rfl⟩,.inr ⟨_,by rw [hpre,hg]; exact ⟨[OG.oct v 3,OG.oct v 2,OG.oct v 1,OG.oct v 0],rfl⟩,hJx3⟩⟩
end Go.Proofs
