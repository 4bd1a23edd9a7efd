/- algorithms.Element and Check at the evaluator. Written by gA6.py. No conditions. -/
import Derived.Test.YtbiildmljbcmeaaDoorA6
import Derived.Test.YtbiildmljbcmeaaDoorOFn
open Ab Go TabE Sp E34 F1 Rw F5 F6 F7 F8 F43 F47 AP A1 A2 A6
set_option maxRecDepth 20000
set_option linter.unusedSimpArgs false
set_option linter.unusedVariables false
set_option maxHeartbeats 8000000
namespace A7
attribute [local simp ↓] s_seq s_reg s_regd s_cond s_block s_cons s_consG s_regD
attribute [local simp] s_nil s_loop s_round s_lpn s_lpe s_lpr firstReg s_gt s_gf s_wb s_wu s_val s_valN s_skip s_calls s_callP s_cax lookR flatR pureKs s_ret s_rgx s_sqn s_sqr s_sqe s_cdb s_bkn s_bkr s_bke s_exit s_ret' s_skip' s_finr s_finn s_fin1 s_fix s_clean s_gc0 o_tmp o_int o_bool o_nil o_str o_fn o_nil' l_hit l_miss l_nil ol_nil ol_cons ol_some x_move x_assign x_pick pk_t pk_f x_bin bn_s x_un x_extract x_callF cl_no x_callB x_callBF frzV x_conv cvx convA frame0 binA intOp resL resA results1 sealLW AV.pure AV.pureL keepT x_alloc x_box bxx x_build bdx x_buildSlice bsx x_buildSliceF bsf x_load ldx x_store stx x_slice slx x_fieldAddr x_field x_index ixx x_indexAddr iax x_makeSlice msx x_makeSliceF msf x_nilCheck newK genOf setK lookK fillA writeL writeC readC conts TyI.mk1 sliceA boundsA boundsB fitsA numA indexAddrA fieldAddrA partA fieldA indexA appendA copyA builtinA AV.cells chunk gcH reach keysT keepK inKs AV.keys AV.keysL Ty.isAgg eq1 eqL convA.go ltI w_u8 w_u32 w_u64 w_i64 w_fdiv w_tdiv w_tmod IntKind.bits unA sc_int sc_bool sc_str sc_sl sc_ref sc_ptr sc_pel sc_nilp sc_fn sc_nilf sc_if sc_nili sc_agg sc_tup sc_mem bs_pure bs_kl bs_length bs_cells bs_all sl_row sealRow sealY sl_int sl_bool sl_str sl_sl sl_nilp sl_nilf sl_nili sl_pel sl_agg sl_tup sl_fn sl_if nat_1 bs_cons bs_nil i_beq i_bne x_mkF x_mkI x_tassert x_panic s_pan s_sqp s_bkp s_finp s_fixp s_lpp s_rgp s_retp s_site s_stxN s_stxO x_callT clx El.avs_len s_dyn0 s_rgy barOf dynChk footL dynOK disjK keysOp opVals Op.operands
abbrev Bd (K:Nat) (n x0 x1 x2 x3 x4 x5 x6 x7 x8 x9 x10 x11 x12 x13 x14 x15:Int) (b:Bool) (p:El) (v:AV) (w:Int):Prop:=∀ h,aCall E K 0 72 [ag n x0 x1 x2 x3 x4 x5 x6 x7 x8 x9 x10 x11 x12 x13 x14 x15 b p] h=some (.ret (.tup [v,.int .i64 w]),h)
def bld (n:Int) (xs:List Int) (b:Bool) (p:El):El:=if b=true then tp [lf (OP.octs n xs),clo p] 2 else tp [lf (OP.octs n xs)] 1
theorem run_bad (K:Nat) (hK:60 ≤ K) (n x0 x1 x2 x3 x4 x5 x6 x7 x8 x9 x10 x11 x12 x13 x14 x15:Int) (b:Bool) (p:El) (w:Int) (hw:w ≠ 0) (B:Bd K n x0 x1 x2 x3 x4 x5 x6 x7 x8 x9 x10 x11 x12 x13 x14 x15 b p zel w):∃ hf,aRun E (K + 1) 71 [ag n x0 x1 x2 x3 x4 x5 x6 x7 x8 x9 x10 x11 x12 x13 x14 x15 b p,.fn 72 [] []] []=some (.ret (.tup [zel,.int .i64 w]),hf):=by
  refine OFn.exm ?_
  rw [aRun_fn rfl E_fn71 rfl (Nat.le_of_ble_eq_true rfl),body_71,c71]
  unfold Bd at B
  simp [-s_round,B,hw,-Option.map_eq_some_iff]
theorem run_ok (K:Nat) (hK:60 ≤ K) (n x0 x1 x2 x3 x4 x5 x6 x7 x8 x9 x10 x11 x12 x13 x14 x15:Int) (b:Bool) (p y:El) (w:Int) (B:Bd K n x0 x1 x2 x3 x4 x5 x6 x7 x8 x9 x10 x11 x12 x13 x14 x15 b p y.av 0) (C:Ck K y w):∃ hf,aRun E (K + 1) 71 [ag n x0 x1 x2 x3 x4 x5 x6 x7 x8 x9 x10 x11 x12 x13 x14 x15 b p,.fn 72 [] []] []=some (.ret (.tup [if w=0 then y.av else zel,.int .i64 w]),hf):=by
  refine OFn.exm ?_
  rw [aRun_fn rfl E_fn71 rfl (Nat.le_of_ble_eq_true rfl),body_71,c71]
  unfold Bd at B; unfold Ck at C; rw [El.av_eq] at B C
  by_cases hw:w=0
  · rw [if_pos hw,El.av_eq]
    simp [-s_round,B,C,hw,-Option.map_eq_some_iff]
  · rw [if_neg hw]
    simp [-s_round,B,C,hw,-Option.map_eq_some_iff]
theorem elem_of (K:Nat) (hK:60 ≤ K) (n x0 x1 x2 x3 x4 x5 x6 x7 x8 x9 x10 x11 x12 x13 x14 x15:Int) (b:Bool) (p y:El) (w:Int) (o:∃ hf,aRun E K 71 [ag n x0 x1 x2 x3 x4 x5 x6 x7 x8 x9 x10 x11 x12 x13 x14 x15 b p,.fn 72 [] []] []=some (.ret (.tup [y.av,.int .i64 w]),hf)) :
    Con E (K + 1) 19 [ag n x0 x1 x2 x3 x4 x5 x6 x7 x8 x9 x10 x11 x12 x13 x14 x15 b p] (.tup [y.av,.int .i64 w]) ∧ Con E (K + 1) 24 [ag n x0 x1 x2 x3 x4 x5 x6 x7 x8 x9 x10 x11 x12 x13 x14 x15 b p] (.int .i64 w):=by
  obtain ⟨hf,e⟩:=o
  have o:=fun slot h => OFn.opened_fn (slot:=slot) (h:=h) e (by simp [AV.pure,AV.pureL,El.avs_pure]) (by simp [AV.pure,AV.pureL,El.av_pure])
  simp only [El.av_eq y] at o ⊢
  constructor
  · refine con_ofO E_fn19 (by simp [AV.pureL,AV.pure,El.avs_pure]) (Nat.le_of_ble_eq_true rfl) rfl (g:=[]) ?_
    rw [body_19,c19]
    simp [-s_round,o]
  · refine con_ofO E_fn24 (by simp [AV.pureL,AV.pure,El.avs_pure]) (Nat.le_of_ble_eq_true rfl) rfl (g:=[]) ?_
    rw [body_24,c24]
    simp [-s_round,o]
def er (n:Int) (xs:List Int) (b:Bool) (p:El):Int:=if OP.okB n xs=false then 1 else if b=false ∧ zE p=false then 1 else (chk (bld n xs b p).core 1 0 0).1
theorem elem (n x0 x1 x2 x3 x4 x5 x6 x7 x8 x9 x10 x11 x12 x13 x14 x15:Int) (b:Bool) (p:El) (hn:0 ≤ n ∧ n < 256) (hx:∀ x ∈ [x0,x1,x2,x3,x4,x5,x6,x7,x8,x9,x10,x11,x12,x13,x14,x15],0 ≤ x ∧ x < 4294967296) (hp:p.ok) (wd:Wd p) (nn:E31.Nn p) (sh:E33.Sh p) (ho:(bld n [x0,x1,x2,x3,x4,x5,x6,x7,x8,x9,x10,x11,x12,x13,x14,x15] b p).ok) :
    ∃ N,Con E N 19 [ag n x0 x1 x2 x3 x4 x5 x6 x7 x8 x9 x10 x11 x12 x13 x14 x15 b p] (.tup [if er n [x0,x1,x2,x3,x4,x5,x6,x7,x8,x9,x10,x11,x12,x13,x14,x15] b p=0 then (bld n [x0,x1,x2,x3,x4,x5,x6,x7,x8,x9,x10,x11,x12,x13,x14,x15] b p).av else zel,.int .i64 (er n [x0,x1,x2,x3,x4,x5,x6,x7,x8,x9,x10,x11,x12,x13,x14,x15] b p)]) ∧ Con E N 24 [ag n x0 x1 x2 x3 x4 x5 x6 x7 x8 x9 x10 x11 x12 x13 x14 x15 b p] (.int .i64 (er n [x0,x1,x2,x3,x4,x5,x6,x7,x8,x9,x10,x11,x12,x13,x14,x15] b p)):=by
  obtain ⟨N1,C1⟩:=A1.clone p wd nn sh
  obtain ⟨N2,C2⟩:=E10.check _ ho
  obtain ⟨K,hK⟩:∃ K,N1 + N2 + 100=K:=⟨_,rfl⟩
  have P:=put n x0 x1 x2 x3 x4 x5 x6 x7 x8 x9 x10 x11 x12 x13 x14 x15 hn hx K (by omega) 0
  have Z:=A1.zero p K (by omega) 0
  refine ⟨K + 3,?_⟩
  have fin:∀ (y:El) (w:Int),(∃ hf,aRun E (K + 2) 71 [ag n x0 x1 x2 x3 x4 x5 x6 x7 x8 x9 x10 x11 x12 x13 x14 x15 b p,.fn 72 [] []] []=some (.ret (.tup [y.av,.int .i64 w]),hf)) → Con E (K + 3) 19 [ag n x0 x1 x2 x3 x4 x5 x6 x7 x8 x9 x10 x11 x12 x13 x14 x15 b p] (.tup [y.av,.int .i64 w]) ∧ Con E (K + 3) 24 [ag n x0 x1 x2 x3 x4 x5 x6 x7 x8 x9 x10 x11 x12 x13 x14 x15 b p] (.int .i64 w):=fun y w o => elem_of (K + 2) (by omega) n x0 x1 x2 x3 x4 x5 x6 x7 x8 x9 x10 x11 x12 x13 x14 x15 b p y w o
  cases hok:OP.okB n [x0,x1,x2,x3,x4,x5,x6,x7,x8,x9,x10,x11,x12,x13,x14,x15] with
  | false =>
    rw [hok] at P
    have e1:er n [x0,x1,x2,x3,x4,x5,x6,x7,x8,x9,x10,x11,x12,x13,x14,x15] b p=1:=by unfold er; rw [hok,if_pos rfl]
    rw [e1,if_neg (by decide:¬ (1:Int)=0)]
    refine fin E32.z0 1 (run_bad (K + 1) (by omega) n x0 x1 x2 x3 x4 x5 x6 x7 x8 x9 x10 x11 x12 x13 x14 x15 b p 1 (by decide) ?_)
    exact fun h => bad1 K (by omega) n x0 x1 x2 x3 x4 x5 x6 x7 x8 x9 x10 x11 x12 x13 x14 x15 b p P (K + 1) (by omega) 0 h
  | true =>
    rw [hok] at P
    simp only [if_true] at P
    by_cases hz:b=false ∧ zE p=false
    · have e1:er n [x0,x1,x2,x3,x4,x5,x6,x7,x8,x9,x10,x11,x12,x13,x14,x15] b p=1:=by unfold er; rw [hok,if_neg (by simp),if_pos hz]
      rw [e1,if_neg (by decide:¬ (1:Int)=0)]
      obtain ⟨rfl,hz⟩:=hz
      rw [hz] at Z
      refine fin E32.z0 1 (run_bad (K + 1) (by omega) n x0 x1 x2 x3 x4 x5 x6 x7 x8 x9 x10 x11 x12 x13 x14 x15 false p 1 (by decide) ?_)
      exact fun h => bad2 K (by omega) n x0 x1 x2 x3 x4 x5 x6 x7 x8 x9 x10 x11 x12 x13 x14 x15 p _ P Z (K + 1) (by omega) 0 h
    · have e1:er n [x0,x1,x2,x3,x4,x5,x6,x7,x8,x9,x10,x11,x12,x13,x14,x15] b p=(chk (bld n [x0,x1,x2,x3,x4,x5,x6,x7,x8,x9,x10,x11,x12,x13,x14,x15] b p).core 1 0 0).1:=by unfold er; rw [hok,if_neg (by simp),if_neg hz]
      rw [e1]
      have B:Bd (K + 1) n x0 x1 x2 x3 x4 x5 x6 x7 x8 x9 x10 x11 x12 x13 x14 x15 b p (bld n [x0,x1,x2,x3,x4,x5,x6,x7,x8,x9,x10,x11,x12,x13,x14,x15] b p).av 0:=by
        cases b with
        | false =>
          have hz':zE p=true:=by cases q:zE p; exact absurd ⟨rfl,q⟩ hz; rfl
          rw [hz'] at Z
          exact fun h => ok1 K (by omega) n x0 x1 x2 x3 x4 x5 x6 x7 x8 x9 x10 x11 x12 x13 x14 x15 p _ P Z (K + 1) (by omega) 0 h
        | true =>
          exact fun h => ok2 K (by omega) n x0 x1 x2 x3 x4 x5 x6 x7 x8 x9 x10 x11 x12 x13 x14 x15 p _ P (fun h => C1 K (by omega) 0 h) (K + 1) (by omega) 0 h
      have r:=run_ok (K + 1) (by omega) n x0 x1 x2 x3 x4 x5 x6 x7 x8 x9 x10 x11 x12 x13 x14 x15 b p (bld n [x0,x1,x2,x3,x4,x5,x6,x7,x8,x9,x10,x11,x12,x13,x14,x15] b p) (chk (bld n [x0,x1,x2,x3,x4,x5,x6,x7,x8,x9,x10,x11,x12,x13,x14,x15] b p).core 1 0 0).1 B (fun h => C2 (K + 1) (by omega) 0 h)
      have e:∀ w:Int,(if w=0 then (bld n [x0,x1,x2,x3,x4,x5,x6,x7,x8,x9,x10,x11,x12,x13,x14,x15] b p).av else zel)=(if w=0 then bld n [x0,x1,x2,x3,x4,x5,x6,x7,x8,x9,x10,x11,x12,x13,x14,x15] b p else E32.z0).av:=fun w => by split <;> rfl
      rw [e] at r ⊢
      exact fin _ _ r
end A7
