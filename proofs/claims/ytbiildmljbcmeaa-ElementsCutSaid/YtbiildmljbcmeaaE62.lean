/- The laws ElementsGet and ElementsCut at the evaluator: true at every row of octets, and at every recipe. No conditions. -/
import Derived.Test.YtbiildmljbcmeaaE28
import Derived.Test.YtbiildmljbcmeaaE48
open Ab Go TabE Sp E22 E26 E40 E53 E56 E61
set_option maxRecDepth 20000
set_option linter.unusedSimpArgs false
set_option linter.unusedVariables false
set_option maxHeartbeats 8000000
namespace E62
attribute [local simp ↓] s_seq s_reg s_regd s_cond s_block s_cons s_consG s_regD
attribute [local simp] s_nil s_loop s_round s_lpn s_lpe s_lpr firstReg s_gt s_gf s_wb s_wu s_val s_valN s_skip s_calls s_callP s_cax lookR flatR pureKs s_ret s_rgx s_sqn s_sqr s_sqe s_cdb s_bkn s_bkr s_bke s_exit s_ret' s_skip' s_finr s_finn s_fin1 s_fix s_clean s_gc0 o_tmp o_int o_bool o_nil o_str o_fn o_nil' l_hit l_miss l_nil ol_nil ol_cons ol_some x_move x_assign x_pick pk_t pk_f x_bin bn_s x_un x_extract x_callF cl_no x_callB x_callBF frzV x_conv cvx convA frame0 binA intOp resL resA results1 sealLW AV.pure AV.pureL keepT x_alloc x_box bxx x_build bdx x_buildSlice bsx x_buildSliceF bsf x_load ldx x_store stx x_slice slx x_fieldAddr x_field x_index ixx x_indexAddr iax x_makeSlice msx x_makeSliceF msf x_nilCheck newK genOf setK lookK fillA writeL writeC readC conts TyI.mk1 sliceA boundsA boundsB fitsA numA indexAddrA fieldAddrA partA fieldA indexA appendA copyA builtinA AV.cells chunk gcH reach keysT keepK inKs AV.keys AV.keysL Ty.isAgg eq1 eqL convA.go ltI w_u8 w_u32 w_u64 w_i64 w_fdiv w_tdiv w_tmod IntKind.bits unA sc_int sc_bool sc_str sc_sl sc_ref sc_ptr sc_pel sc_nilp sc_fn sc_nilf sc_if sc_nili sc_agg sc_tup sc_mem bs_pure bs_kl bs_length bs_cells bs_all sl_row sealRow sealY sl_int sl_bool sl_str sl_sl sl_nilp sl_nilf sl_nili sl_pel sl_agg sl_tup sl_fn sl_if nat_1 bs_cons bs_nil i_beq i_bne x_mkF x_mkI x_tassert x_panic s_pan s_sqp s_bkp s_finp s_fixp s_lpp s_rgp s_retp s_site s_stxN s_stxO x_callT clx El.avs_len s_dyn0 s_rgy barOf dynChk footL dynOK disjK keysOp opVals Op.operands
theorem get (fl : Bool) (b : List Int) (cp : Option Nat) (hn : fl = true → b = []) (hb : isB b) : ∃ N, Con E N 3 [.sl fl (bs b) cp] (.bool true) := by
  by_cases long : 200 < b.length
  · have lv := LV.l04 300 (by omega) 0
    have long' : (200 : Int) < b.length := by omega
    refine ⟨300 + 1, con_of E_fn3 (by simp [AV.pureL, AV.pure]) (Nat.le_of_ble_eq_true rfl) rfl rfl (g := []) ?_⟩
    rw [body_3, c3]
    simp [lv, long, long']
  have long' : ¬ (200 : Int) < b.length := by omega
  have rg2 := rget fl b cp hb
  cases h : rg b with
  | bad x y =>
    obtain ⟨N1, G⟩ := got_bad fl b cp hn hb h
    have y0 := rg_ne h
    rw [h, av2] at rg2
    obtain ⟨K, hK⟩ : ∃ K, N1 + b.length + 400 = K := ⟨_, rfl⟩
    have w1 := rg2 K (by omega) 0
    have w2 := G K (by omega) 0
    have lv := LV.l04 K (by omega) 0
    refine ⟨K + 1, con_of E_fn3 (by simp [AV.pureL, AV.pure]) (Nat.le_of_ble_eq_true rfl) rfl rfl (g := []) ?_⟩
    rw [body_3, c3]
    simp [zv] at w1 w2
    simp [lv, long, long', w1, w2, y0]
  | ok c n m =>
    obtain ⟨r1, r2, r3, r4, r5, r6⟩ := rg_ok hb h
    obtain ⟨N1, G⟩ := got_ok fl b cp hn hb h (dec2 c) (dec2_core c)
    have d2 := ok_of (dec2 c) (by rw [dec2_core]; exact r3) (by rw [dec2_core]; exact r4) (by rw [dec2_core, r2]; omega)
    have ck : (chk (dec2 c).core 1 0 0).1 = 0 := by rw [dec2_core]; exact chk_of c 1 0 0 r4 (by omega) (by omega)
    obtain ⟨N2, P⟩ := E10.put_ok (dec2 c) d2.1 d2.2 ck (by rw [dec2_core, r2]; omega)
    rw [dec2_core, r2] at P
    rw [h, av2] at rg2
    obtain ⟨K, hK⟩ : ∃ K, N1 + N2 + b.length + 400 = K := ⟨_, rfl⟩
    have w1 := rg2 K (by omega) 0
    have w2 := G K (by omega) 0
    have w3 := P K (by omega) 0
    have lv := LV.l04 K (by omega) 0
    rw [El.av_eq] at w1 w2 w3
    have go := bs_go hb
    refine ⟨K + 1, con_of E_fn3 (by simp [AV.pureL, AV.pure]) (Nat.le_of_ble_eq_true rfl) rfl rfl (g := []) ?_⟩
    rw [body_3, c3]
    simp [lv, long, long', w1, w2, w3, go]
theorem cutH (f : Bool) (cp : Option Nat) (b : List Int) (k : Nat) (hk : k ≤ b.length) : ∀ h, sliceA E 22 (.sl f (bs b) cp) none (some (.int .i64 (k : Int))) none h = some (.sl f (bs (b.take k)) cp) := by
  intro h
  have t : (bs b).take k = bs (b.take k) := by simp [bs, List.map_take]
  simp [sliceA, boundsA, fitsA, numA, boundsB, hk, t, bs_length]
theorem cut (f' : Bool) (q : Option Nat) (l : List G) (left : Int) (hl : ∀ g ∈ l, g.ok) (ll : l.length ≤ 9223372036854775807) (l0 : 0 ≤ left) (l1 : left < 65536) : ∃ N, Con E N 4 [.agg [.sl f' (l.map G.av) q], .int .u16 left] (.bool true) := by
  obtain ⟨N1, C1⟩ := E28.of f' q l hl ll
  have ga := good l hl
  generalize ofE l = a at C1 ga
  have len := ga.len
  obtain ⟨N2, C2⟩ := E10.put_ok a ga.ok ga.sm ga.chk (by omega)
  have eb := E18.enc_B a ga.ok ga.vld (by omega)
  have e2 := enc_len2 a.core
  have kb := okc_of a ga.ok
  have vb := ga.vld
  generalize hc : a.core = c at *
  obtain ⟨b, hbb⟩ : ∃ b, enc c = b := ⟨_, rfl⟩
  rw [hbb] at C2 eb e2 len
  obtain ⟨k, hk⟩ : ∃ k : Nat, left % (b.length : Int) = k := ⟨(left % (b.length : Int)).toNat, (Int.toNat_of_nonneg (Int.emod_nonneg _ (by omega))).symm⟩
  have klt : k < b.length := by have := Int.emod_lt_of_pos left (show (0 : Int) < b.length by omega); omega
  have tk : (b.take k).length = k := by rw [List.length_take]; omega
  have tb : isB (b.take k) := fun y hy => eb y (List.mem_of_mem_take hy)
  have R : rd ((b.take k).length + 2) (b.take k) 0 (b.take k).length 1 0 = .bad k 7 := by
    rw [tk]
    exact rd_cut c (k + 1) (b.take k) k 1 0 kb vb (by rw [List.take_take, hbb]; simp) (by omega) (by rw [hbb]; exact klt) (by rw [hbb]; omega) (by omega) (by omega)
  have N := E60.next false (b.take k) (some b.length) (fun q => by cases q) tb (by omega)
  rw [R] at N
  simp only [E60.res1] at N
  obtain ⟨N3, G⟩ := got_bad false (b.take k) (some b.length) (fun q => by cases q) tb (x := k) (y := 7) (by unfold rg; rw [if_neg (by omega), R])
  obtain ⟨N4, S⟩ := E1.same E18.z E18.z E18.z_ok rfl
  rw [zv_av] at S
  obtain ⟨K, hK⟩ : ∃ K, N1 + N2 + N3 + N4 + b.length + 400 = K := ⟨_, rfl⟩
  have w1 := C1 K (by omega) 0
  have w2 := C2 K (by omega) 0
  have w3 := N K (by omega) 0
  have w4 := G K (by omega) 0
  have w5 := S K (by omega) 0
  have lv := LV.l04 K (by omega) 0
  rw [El.av_eq] at w1 w2
  have ct := cutH false (some b.length) b k (by omega)
  have c1 := w64' left (by omega) (by omega)
  have c2 : Int.tmod left (b.length : Int) = left % (b.length : Int) := Int.tmod_eq_emod_of_nonneg l0
  have c3 := w64' (k : Int) (by omega) (by omega)
  have ne : ¬ b = [] := fun h => by rw [h] at e2; simp at e2
  have ne2 : ¬ b.length = 0 := by omega
  have ne3 : ¬ (b.length : Int) = 0 := by omega
  refine ⟨K + 1, con_of E_fn4 (by simp [AV.pureL, AV.pure]) (Nat.le_of_ble_eq_true rfl) rfl rfl (g := []) ?_⟩
  rw [body_4, c4]
  simp [zv] at w3 w4 w5
  simp [-sliceA, lv, w1, w2, w3, w4, w5, ct, c1, c2, c3, hk, ne, ne2, ne3]
end E62
