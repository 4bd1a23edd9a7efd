/- Own work, no conditions. -/
import Derived.Test.YtbiildmljbcmeaaE56
set_option maxRecDepth 20000
set_option linter.unusedSimpArgs false
set_option linter.unusedVariables false
set_option maxHeartbeats 16000000
section
open Ab Go TabE Sp E56
namespace E57
abbrev Lp (K : Nat) := aLoop (aCode E (site fn73 (aRun E K)) (dcall (aRun E K)) K 1 fn73 lpE) (cleanS 1 ((firstReg lpE).bind fn73.head))
def Sx (fl : Bool) (b : List Int) (cp : Option Nat) (c n d m : Int) (a e : Nat) (l : List El) : St := if l = [] then St0 fl b cp c n d m a e else StR fl b cp c n d m a e l (l.length - 1)
def En (fl : Bool) (b : List Int) (cp : Option Nat) (c n d m : Int) (a e : Nat) (l : List El) : AExit × St :=
  if l = [] then (.exit 2, ⟨[(0, .ptr (0, 0, 0) 0), (1, .int .i64 (a : Int)), (2, .int .i64 (e : Int)), (3, .int .i64 d), (8, .ptr (1, 8, 0) 0), (14, .ptr (1, 14, 0) 0), (129, .bool false)], (St0 fl b cp c n d m a e).h⟩)
  else (.exit 2, ⟨[(0, .ptr (0, 0, 0) 0), (1, .int .i64 (a : Int)), (2, .int .i64 (e : Int)), (3, .int .i64 d), (8, .ptr (1, 8, 0) 0), (14, .ptr (1, 14, 0) 0), (129, .bool false)], (StR fl b cp c n d m a e l (l.length - 1)).h⟩)
abbrev Kn (f : Nat) : Prop := ∀ (fl : Bool) (b : List Int) (cp : Option Nat) (a e : Nat) (d m : Int), (fl = true → b = []) → isB b → b.length ≤ 100000000 → a ≤ e → e ≤ b.length → 0 ≤ d → d ≤ 17 → 0 ≤ m → m ≤ 8192 → e - a + 1 ≤ f →
  match rd f b a e d m with
  | .ok c n m' => ∃ hf, lookK hf (0, 0, 0) = some (R fl b cp m') ∧ ∀ q, f + 200 ≤ q → aRun E q 73 [.ptr (0, 0, 0) 0, .int .i64 (a : Int), .int .i64 (e : Int), .int .i64 d] [((0, 0, 0), R fl b cp m)] = some (.ret (.tup [(dec1 c).av, .int .i64 (n : Int)]), hf)
  | .bad x y => ∃ hf m', lookK hf (0, 0, 0) = some (R fl b cp m') ∧ ∀ q, f + 200 ≤ q → aRun E q 73 [.ptr (0, 0, 0) 0, .int .i64 (a : Int), .int .i64 (e : Int), .int .i64 d] [((0, 0, 0), R fl b cp m)] = some (.panic [flt x y], hf)
theorem loop (K : Nat) (fl : Bool) (b : List Int) (cp : Option Nat) (c n d : Int) (e : Nat) (hn : fl = true → b = []) (hb : isB b) (lb : b.length ≤ 100000000) (he : e ≤ b.length) (d0 : 0 ≤ d) (d1 : d ≤ 16) : ∀ (f : Nat), (∀ j, j < f → Kn j) → f + 200 ≤ K → ∀ (a : Nat) (m : Int) (l : List El) (k : Nat), a ≤ e → 0 ≤ m → m ≤ 8192 → l.length + (e - a) ≤ 100000000 → e - a + 2 ≤ f → e - a < k →
    match rds f b a e (d + 1) m with
    | .inl (s, m') => ∃ a', Lp K k (Sx fl b cp c n d m a e l) = some (En fl b cp c n d m' a' e (l ++ decs1 s))
    | .inr (x, y) => ∃ m', panA (Lp K k (Sx fl b cp c n d m a e l)) = some ([flt x y], some (R fl b cp m')) := by
  intro f
  induction f with
  | zero => intro _ _ a m l k _ _ _ _ h; omega
  | succ f ih =>
    intro hK hf a m l k ha m0 m1 hl h1 h2
    obtain ⟨k, rfl⟩ : ∃ j, k = j + 1 := ⟨k - 1, by omega⟩
    rw [rds]
    by_cases q : e ≤ a
    · rw [if_pos q]
      refine ⟨a, ?_⟩
      rw [decs1, List.append_nil]
      unfold Sx En
      by_cases hl0 : l = []
      · rw [if_pos hl0, if_pos hl0]; exact aLoop_end (last0 K K fl b cp c n d m a e q) (by simp)
      · rw [if_neg hl0, if_neg hl0]; exact aLoop_end (lastR K K fl b cp c n d m a e l _ q) (by simp)
    rw [if_neg q]
    have C := hK f (by omega) fl b cp a e (d + 1) m hn hb lb ha he (by omega) (by omega) m0 m1 (by omega)
    cases hr : rd f b a e (d + 1) m with
    | bad x y =>
      rw [hr] at C
      obtain ⟨hf', m', q1, q2⟩ := C
      have C' : BadC K fl b cp a e (d + 1) m x y m' := fun h hk => op_bad hk rfl (R_keys _ _ _ _) (fun φ => R_rn _ _ _ _ φ) rfl (R_keys _ _ _ _) (fun φ => R_rn _ _ _ _ φ) rfl (q2 K (by omega)) q1
      refine ⟨m', ?_⟩
      have st : panA (rndO fn73 lpE K K (Sx fl b cp c n d m a e l)) = some ([flt x y], some (R fl b cp m')) := by
        unfold Sx
        by_cases hl0 : l = []
        · rw [if_pos hl0]; exact bad0 K K fl b cp c n d m a e x y m' (by omega) d0 (by omega) (by omega) C'
        · rw [if_neg hl0]; exact badR K K fl b cp c n d m a e l _ x y m' (by omega) d0 (by omega) (by omega) C'
      obtain ⟨s, s1, s2⟩ := panA_eq st
      have en := aLoop_end (k := k) (f := aCode E (site fn73 (aRun E K)) (dcall (aRun E K)) K 1 fn73 lpE) (cl := cleanS 1 ((firstReg lpE).bind fn73.head)) s1 (by simp)
      show panA (aLoop _ _ _ _) = _
      rw [en]
      simp only [panA, s2]
    | ok cc a' m' =>
      have RK := rd_back f b a e (d + 1) m cc a' m' hb he ha m1 hr
      have cp1 := cnt_pos cc
      rw [hr] at C
      obtain ⟨hf', q1, q2⟩ := C
      have C' : OkC K fl b cp a e (d + 1) m (.tup [(dec1 cc).av, .int .i64 (a' : Int)]) m' := fun h hk => op_ok hk rfl (R_keys _ _ _ _) (fun φ => R_rn _ _ _ _ φ) rfl (R_keys _ _ _ _) (fun φ => R_rn _ _ _ _ φ) (by simp [AV.pure, AV.pureL, El.av_pure]) (q2 K (by omega)) q1
      have st : rndO fn73 lpE K K (Sx fl b cp c n d m a e l) = some (.normal, Sx fl b cp c n d m' a' e (l ++ [dec1 cc])) := by
        unfold Sx
        rw [if_neg (show ¬ (l ++ [dec1 cc] = []) by simp)]
        by_cases hl0 : l = []
        · subst hl0; rw [if_pos rfl]; exact go0 K K fl b cp c n d m a e a' m' (dec1 cc) (by omega) d0 (by omega) (by omega) C'
        · rw [if_neg hl0]
          have hp : 0 < l.length := List.length_pos_iff.2 hl0
          have e1 : (l ++ [dec1 cc]).length - 1 = l.length - 1 + 1 := by rw [List.length_append, List.length_singleton]; omega
          rw [e1]
          exact goR K K fl b cp c n d m a e a' m' l (l.length - 1) (dec1 cc) (by omega) d0 (by omega) (by omega) (by omega) C'
      have I := ih (fun j hj => hK j (by omega)) (by omega) a' m' (l ++ [dec1 cc]) k RK.r (by have := RK.n; omega) RK.k (by rw [List.length_append, List.length_singleton]; have := RK.l; have := RK.r; omega) (by have := RK.l; omega) (by have := RK.l; omega)
      have su := aLoop_succ (k := k) (f := aCode E (site fn73 (aRun E K)) (dcall (aRun E K)) K 1 fn73 lpE) (cl := cleanS 1 ((firstReg lpE).bind fn73.head)) st
      cases hr2 : rds f b a' e (d + 1) m' with
      | inl p =>
        obtain ⟨s, m2⟩ := p
        rw [hr2] at I
        simp only at I
        simp only [hr2]
        obtain ⟨a2, I⟩ := I
        refine ⟨a2, ?_⟩
        rw [List.append_assoc] at I
        rw [decs1]
        exact su.trans I
      | inr p =>
        obtain ⟨x, y⟩ := p
        rw [hr2] at I
        simp only at I
        simp only [hr2]
        obtain ⟨m3, I⟩ := I
        refine ⟨m3, ?_⟩
        show panA (aLoop _ _ _ _) = _
        rw [su]
        exact I
end E57
end
section
open Ab Go TabE Sp E40
namespace E41
theorem and8 (x : Int) (h0 : 0 ≤ x) (h1 : x < 256) : intOp .and .u8 x 127 = some (.int .u8 (x % 128)) := by
  have : ∀ n : Fin 256, intOp .and .u8 (n.val : Int) 127 = some (.int .u8 ((n.val : Int) % 128)) := by
    have q : ∀ n : Fin 256, IntKind.u8.wrap (BitVec.ofInt 8 (n.val : Int) &&& BitVec.ofInt 8 127).toNat = (n.val : Int) % 128 := by decide +kernel
    intro n
    show some (AV.int .u8 (IntKind.u8.wrap (BitVec.ofInt 8 (n.val : Int) &&& BitVec.ofInt 8 127).toNat)) = _
    rw [q n]
  obtain ⟨n, rfl⟩ := Int.eq_ofNat_of_zero_le h0
  exact this ⟨n, by omega⟩
theorem or32 (a y : Int) (a0 : 0 ≤ a) (a1 : a < 2097152) (y0 : 0 ≤ y) (y1 : y < 128) : intOp .or .u32 (a * 128) y = some (.int .u32 (128 * a + y)) := by
  obtain ⟨m, rfl⟩ := Int.eq_ofNat_of_zero_le a0
  obtain ⟨n, rfl⟩ := Int.eq_ofNat_of_zero_le y0
  have e : ((m : Int) * 128) = ((m * 128 : Nat) : Int) := by omega
  show some (AV.int .u32 (IntKind.u32.wrap (BitVec.ofInt 32 ((m : Int) * 128) ||| BitVec.ofInt 32 (n : Int)).toNat)) = _
  rw [e, BitVec.ofInt_natCast, BitVec.ofInt_natCast, BitVec.toNat_or, BitVec.toNat_ofNat, BitVec.toNat_ofNat, Nat.mod_eq_of_lt (by omega), Nat.mod_eq_of_lt (by omega)]
  have o := Nat.shiftLeft_add_eq_or_of_lt (show n < 2 ^ 7 by omega) m
  rw [Nat.shiftLeft_eq] at o
  have o2 : m * 128 ||| n = m * 128 + n := by rw [← o]
  rw [o2, w_u32]
  congr 2
  omega
end E41
end
section
open Ab Go TabE
attribute [local simp ↓] s_seq s_reg s_regd s_cond s_block s_cons s_consG
attribute [local simp] s_nil s_loop s_round s_lpn s_lpe s_lpr firstReg s_gt s_gf s_wb s_wu s_val s_valN s_skip s_calls s_callP s_cax lookR flatR pureKs s_ret s_rgx s_sqn s_sqr s_sqe s_cdb s_bkn s_bkr s_bke s_exit s_ret' s_skip' s_finr s_finn s_fin1 s_fix s_clean s_gc0 o_tmp o_int o_bool o_nil o_str o_fn o_nil' l_hit l_miss l_nil ol_nil ol_cons ol_some x_move x_assign x_pick pk_t pk_f x_bin bn_s x_un x_extract x_callF cl_no x_callB x_callBF frzV x_conv cvx convA frame0 binA intOp resL resA results1 sealLW AV.pure AV.pureL keepT x_alloc x_box bxx x_build bdx x_buildSlice bsx x_buildSliceF bsf x_load ldx x_store stx x_slice slx x_fieldAddr x_field x_index ixx x_indexAddr iax x_makeSlice msx x_makeSliceF msf x_nilCheck newK genOf setK lookK fillA writeL writeC readC conts TyI.mk1 sliceA boundsA boundsB fitsA numA indexAddrA fieldAddrA partA fieldA indexA appendA copyA builtinA AV.cells chunk gcH reach keysT keepK inKs AV.keys AV.keysL Ty.isAgg eq1 eqL convA.go ltI w_u8 w_u32 w_u64 w_i64 w_fdiv w_tdiv w_tmod IntKind.bits unA sc_int sc_bool sc_str sc_sl sc_ref sc_ptr sc_pel sc_nilp sc_fn sc_nilf sc_if sc_nili sc_agg sc_tup sc_mem bs_pure bs_kl bs_length bs_cells bs_all sl_row sealRow sealY sl_int sl_bool sl_str sl_sl sl_nilp sl_nilf sl_nili sl_pel sl_agg sl_tup sl_fn sl_if nat_1 bs_cons bs_nil i_beq i_bne x_mkF x_mkI x_tassert x_panic s_pan s_sqp s_bkp s_finp s_fixp s_lpp s_rgp s_retp s_site s_stxN s_stxO x_callT clx El.avs_len
section
open Ab Go TabE Sp E40 E41
namespace E42
theorem go (q k1 : Nat) (f c) (xs : List Int) (a x : Int) (i : Nat) (hx : xs[i]? = some x) (i1 : 1 ≤ i) (i4 : i < 4) (x0 : 128 ≤ x) (x1 : x < 256) (nb : ¬ (i = 1 ∧ x = 128)) (a0 : 0 ≤ a) (a1 : a < 2097152) :
    rnd fn112 b112 q k1 (S f xs c a i) = some (.normal, S f xs c (128 * a + x % 128) (i + 1)) := by
  have hi : i < xs.length := (List.getElem?_eq_some_iff.1 hx).1
  have ix := byte_at f c xs i x hx
  have w := w64' ((i : Int) + 1) (by omega) (by omega)
  have h1 := and8 x (by omega) x1
  have h2 := or32 a (x % 128) a0 a1 (by omega) (by omega)
  have h3 : ¬ x < 128 := by omega
  have h4 : ¬ ((i : Int) = 4) := by omega
  have h5 : ¬ ((i : Int) = xs.length) := by omega
  have h6 : ¬ (i = xs.length) := by omega
  have h7 : ¬ (i = 4) := by omega
  have w7 : (a * 128) % 4294967296 = a * 128 := Int.emod_eq_of_lt (by omega) (by omega)
  have w8 : (x % 128) % 4294967296 = x % 128 := Int.emod_eq_of_lt (by omega) (by omega)
  simp only [intOp] at h1 h2
  simp [IntKind.bits, w_u8, w_u32] at h1 h2
  by_cases e1 : i = 1
  · subst e1
    have ix1 : ∀ hp, indexAddrA E 22 (.sl f (bs xs) c) (.int .i64 1) hp = some (.pel [.int .u8 x]) := ix
    have h8 : ¬ ((1 : Int) = xs.length) := by omega
    have nx : ¬ x = 128 := fun e => nb ⟨rfl, e⟩
    simp [b112, lp, lps, c112, -indexAddrA, ix1, w, h1, h2, h3, h5, h6, h8, nx, w7, w8]
  · have e2 : ¬ (i : Int) = 1 := by omega
    simp [b112, lp, lps, c112, -indexAddrA, ix, w, h1, h2, h3, h4, h5, h6, h7, e1, e2, w7, w8]
end E42
end
section
open Ab Go TabE Sp E40 E41
namespace E43
theorem short (q k1 : Nat) (f c) (xs : List Int) (a : Int) : rnd fn112 b112 q k1 (S f xs c a xs.length) = some (.ret, ⟨[(2, .int .u32 0), (3, .int .i64 0), (4, .int .i64 7)], []⟩) := by
  simp [b112, lp, lps, c112]
theorem bad1 (q k1 : Nat) (f c) (xs : List Int) (a : Int) (hx : xs[1]? = some 128) : rnd fn112 b112 q k1 (S f xs c a 1) = some (.ret, ⟨[(2, .int .u32 0), (3, .int .i64 0), (4, .int .i64 9)], []⟩) := by
  have hi : 1 < xs.length := (List.getElem?_eq_some_iff.1 hx).1
  have ix1 : ∀ hp, indexAddrA E 22 (.sl f (bs xs) c) (.int .i64 1) hp = some (.pel [.int .u8 128]) := byte_at f c xs 1 128 hx
  have h8 : ¬ ((1 : Int) = xs.length) := by omega
  simp [b112, lp, lps, c112, -indexAddrA, ix1, h8]
theorem bad4 (q k1 : Nat) (f c) (xs : List Int) (a x : Int) (hx : xs[4]? = some x) (x0 : 128 ≤ x) (x1 : x < 256) : rnd fn112 b112 q k1 (S f xs c a 4) = some (.ret, ⟨[(2, .int .u32 0), (3, .int .i64 0), (4, .int .i64 9)], []⟩) := by
  have hi : 4 < xs.length := (List.getElem?_eq_some_iff.1 hx).1
  have ix1 : ∀ hp, indexAddrA E 22 (.sl f (bs xs) c) (.int .i64 4) hp = some (.pel [.int .u8 x]) := byte_at f c xs 4 x hx
  have h8 : ¬ ((4 : Int) = xs.length) := by omega
  simp [b112, lp, lps, c112, -indexAddrA, ix1, h8, x0]
end E43
end
section
open Ab Go TabE Sp E40 E41
namespace E44
theorem fin (q k1 : Nat) (f c) (xs : List Int) (a x : Int) (i : Nat) (hx : xs[i]? = some x) (i1 : 1 ≤ i) (i4 : i ≤ 4) (x0 : 0 ≤ x) (x1 : x < 128) (a0 : 0 ≤ a) (a1 : a < 2097152) :
    rnd fn112 b112 q k1 (S f xs c a i) = some (.exit 0, ⟨[(0, .sl f (bs xs) c), (2, .int .u32 (128 * a + x % 128)), (3, .int .i64 (i : Int)), (37, .bool true)], []⟩) := by
  have hi : i < xs.length := (List.getElem?_eq_some_iff.1 hx).1
  have ix := byte_at f c xs i x hx
  have h1 := and8 x (by omega) (by omega)
  have h2 := or32 a (x % 128) a0 a1 (by omega) (by omega)
  have h3 : x < 128 := x1
  have h9 : ¬ (128 ≤ x) := by omega
  have h5 : ¬ ((i : Int) = xs.length) := by omega
  have h6 : ¬ (i = xs.length) := by omega
  have nx : ¬ x = 128 := by omega
  have w7 : (a * 128) % 4294967296 = a * 128 := Int.emod_eq_of_lt (by omega) (by omega)
  have w8 : (x % 128) % 4294967296 = x % 128 := Int.emod_eq_of_lt (by omega) (by omega)
  simp only [intOp] at h1 h2
  simp [IntKind.bits, w_u8, w_u32] at h1 h2
  by_cases e1 : i = 1
  · subst e1
    have ix1 : ∀ hp, indexAddrA E 22 (.sl f (bs xs) c) (.int .i64 1) hp = some (.pel [.int .u8 x]) := ix
    have h8 : ¬ ((1 : Int) = xs.length) := by omega
    simp [b112, lp, lps, c112, -indexAddrA, ix1, h1, h2, h3, h5, h6, h8, h9, nx, w7, w8]
  · by_cases e4 : i = 4
    · subst e4
      have ix1 : ∀ hp, indexAddrA E 22 (.sl f (bs xs) c) (.int .i64 4) hp = some (.pel [.int .u8 x]) := ix
      have h8 : ¬ ((4 : Int) = xs.length) := by omega
      simp [b112, lp, lps, c112, -indexAddrA, ix1, h1, h2, h3, h5, h6, h8, h9, nx, w7, w8]
    · have e2 : ¬ (i : Int) = 1 := by omega
      have h4 : ¬ ((i : Int) = 4) := by omega
      simp [b112, lp, lps, c112, -indexAddrA, ix, h1, h2, h3, h4, h5, h6, h9, e1, e2, e4, nx, w7, w8]
end E44
end
end
section
open Ab Go TabE Sp E40 E41
namespace E45
abbrev Lp (K : Nat) := aLoop (aCode E (aCall E K) (dcall (aRun E K)) K 1 fn112 b112) (cleanS 1 ((firstReg b112).bind fn112.head))
theorem loop (K : Nat) (f c) (xs : List Int) (hb : isB xs) : ∀ (r : List Int) (i : Nat) (a : Int) (k : Nat), xs.drop i = r → 1 ≤ i → i ≤ 4 → i ≤ xs.length → 0 ≤ a → (i = 4 → a < 2097152) → (i = 3 → a < 16384) → (i = 2 → a < 128) → (i = 1 → a = 0) → 5 ≤ k + i →
    (∃ e : Int, e ≠ 0 ∧ num r i a = (0, 0, e) ∧ Lp K k (S f xs c a i) = some (.ret, ⟨[(2, .int .u32 0), (3, .int .i64 0), (4, .int .i64 e)], []⟩)) ∨
    (∃ v : Int, ∃ j : Nat, 0 ≤ v ∧ v < 268435456 ∧ j ≤ 4 ∧ num r i a = (if v < 31 then (0, 0, 9) else (v, (j : Int) + 1, 0)) ∧ Lp K k (S f xs c a i) = some (.exit 0, ⟨[(0, .sl f (bs xs) c), (2, .int .u32 v), (3, .int .i64 (j : Int)), (37, .bool true)], []⟩))
  | [], i, a, k, h1, i1, i4, hl, a0, a4, a3, a2, aa, hk => by
    obtain ⟨k, rfl⟩ : ∃ j, k = j + 1 := ⟨k - 1, by omega⟩
    have := List.drop_eq_nil_iff.1 h1
    obtain rfl : i = xs.length := by omega
    exact .inl ⟨7, by omega, rfl, aLoop_end (E43.short K K f c xs a) (by simp)⟩
  | x :: r, i, a, k, h1, i1, i4, hl, a0, a4, a3, a2, aa, hk => by
    obtain ⟨k, rfl⟩ : ∃ j, k = j + 1 := ⟨k - 1, by omega⟩
    have hx : xs[i]? = some x := by
      have := congrArg (fun l => l[0]?) h1
      simpa [List.getElem?_drop] using this
    have hd : xs.drop (i + 1) = r := by
      have := congrArg List.tail h1
      simpa [List.tail_drop] using this
    have hi : i < xs.length := (List.getElem?_eq_some_iff.1 hx).1
    have xb := hb x (List.mem_of_getElem? hx)
    unfold num
    by_cases b1 : (i : Int) = 1 ∧ x = 128
    · obtain ⟨q1, rfl⟩ := b1
      obtain rfl : i = 1 := by omega
      rw [if_pos (.inl ⟨rfl, rfl⟩)]
      exact .inl ⟨9, by omega, rfl, aLoop_end (E43.bad1 K K f c xs a hx) (by simp)⟩
    by_cases b4 : (i : Int) = 4 ∧ 128 ≤ x
    · obtain ⟨q1, q2⟩ := b4
      obtain rfl : i = 4 := by omega
      rw [if_pos (.inr ⟨rfl, q2⟩)]
      exact .inl ⟨9, by omega, rfl, aLoop_end (E43.bad4 K K f c xs a x hx q2 xb.2) (by simp)⟩
    rw [if_neg (fun h => h.elim b1 b4)]
    by_cases lt : x < 128
    · rw [if_pos lt]
      refine .inr ⟨128 * a + x % 128, i, by omega, by omega, i4, rfl, aLoop_end (E44.fin K K f c xs a x i hx i1 i4 xb.1 lt a0 (by omega)) (by simp)⟩
    · rw [if_neg lt]
      have st := E42.go K K f c xs a x i hx i1 (by omega) (by omega) xb.2 (fun h => b1 ⟨by omega, h.2⟩) a0 (by omega)
      have := loop K f c xs hb r (i + 1) (128 * a + x % 128) k hd (by omega) (by omega) (by omega) (by omega) (by omega) (by omega) (by omega) (by omega) (by omega)
      have e : ((i + 1 : Nat) : Int) = (i : Int) + 1 := by omega
      rw [e] at this
      show (∃ e : Int, e ≠ 0 ∧ _ ∧ aLoop _ _ (k + 1) _ = _) ∨ _
      unfold Lp at this ⊢
      rw [aLoop_succ st]
      exact this
end E45
end
section
open Ab Go TabE Sp E40 E41
namespace E46
theorem number (f c) (x : Int) (r : List Int) (hb : isB (x :: r)) : Con E 31 112 [.sl f (bs (x :: r)) c] (.tup [.int .u32 (num r 1 0).1, .int .i64 (num r 1 0).2.1, .int .i64 (num r 1 0).2.2]) := by
  have L := E45.loop 30 f c (x :: r) hb r 1 0 30 rfl (by omega) (by omega) (by simp) (by omega) (by omega) (by omega) (by omega) (by omega) (by omega)
  obtain ⟨xs, hxs⟩ : ∃ xs, x :: r = xs := ⟨_, rfl⟩
  rw [hxs] at L ⊢
  refine con_of E_fn112 (by simp [AV.pureL, AV.pure]) (Nat.le_of_ble_eq_true rfl) rfl rfl (g := []) ?_
  rw [body_112, c112]
  rcases L with ⟨e, e0, hn, L⟩ | ⟨v, j, v0, v1, j4, hn, L⟩
  · have hn' : num r 1 0 = (0, 0, e) := hn
    rw [hn']
    simp [E45.Lp, b112, lp, lps, c112, firstReg, S] at L
    simp [↓s_seq, ↓s_reg, ↓s_block, ↓s_cons, s_nil, s_loop, firstReg, s_val, s_rgx, s_sqn, s_sqr, s_bkr, s_finr, s_fin1, s_fix, s_clean, o_int, l_hit, l_miss, x_assign, frame0, resL, resA, results1, AV.pure, AV.pureL, keepT, gcH, sl_tup, L]
  · have hn' : num r 1 0 = (if v < 31 then (0, 0, 9) else (v, (j : Int) + 1, 0)) := hn
    rw [hn']
    have w := w64' ((j : Int) + 1) (by omega) (by omega)
    simp [E45.Lp, b112, lp, lps, c112, firstReg, S] at L
    by_cases h : v < 31
    · simp [↓s_seq, ↓s_reg, ↓s_cond, ↓s_block, ↓s_cons, s_nil, s_loop, firstReg, s_val, s_rgx, s_sqn, s_sqr, s_cdb, s_bke, s_ret', s_finr, s_fin1, s_fix, s_clean, o_tmp, o_int, l_hit, l_miss, x_move, x_assign, x_bin, bn_s, frame0, binA, intOp, resL, resA, results1, AV.pure, AV.pureL, keepT, gcH, sl_tup, L, h]
    · simp [↓s_seq, ↓s_reg, ↓s_cond, ↓s_block, ↓s_cons, s_nil, s_loop, firstReg, s_val, s_rgx, s_sqn, s_cdb, s_bke, s_ret', s_skip', s_finr, s_fin1, s_fix, s_clean, o_tmp, o_int, l_hit, l_miss, x_move, x_assign, x_bin, bn_s, frame0, binA, intOp, resL, resA, results1, AV.pure, AV.pureL, keepT, gcH, sl_tup, L, h, w]
end E46
end
section
open Ab Go TabE
attribute [local simp ↓] s_seq s_reg s_regd s_cond s_block s_cons s_consG s_regD
attribute [local simp] s_nil s_loop s_round s_lpn s_lpe s_lpr firstReg s_gt s_gf s_wb s_wu s_val s_valN s_skip s_calls s_callP s_cax lookR flatR pureKs s_ret s_rgx s_sqn s_sqr s_sqe s_cdb s_bkn s_bkr s_bke s_exit s_ret' s_skip' s_finr s_finn s_fin1 s_fix s_clean s_gc0 o_tmp o_int o_bool o_nil o_str o_fn o_nil' l_hit l_miss l_nil ol_nil ol_cons ol_some x_move x_assign x_pick pk_t pk_f x_bin bn_s x_un x_extract x_callF cl_no x_callB x_callBF frzV x_conv cvx convA frame0 binA intOp resL resA results1 sealLW AV.pure AV.pureL keepT x_alloc x_box bxx x_build bdx x_buildSlice bsx x_buildSliceF bsf x_load ldx x_store stx x_slice slx x_fieldAddr x_field x_index ixx x_indexAddr iax x_makeSlice msx x_makeSliceF msf x_nilCheck newK genOf setK lookK fillA writeL writeC readC conts TyI.mk1 sliceA boundsA boundsB fitsA numA indexAddrA fieldAddrA partA fieldA indexA appendA copyA builtinA AV.cells chunk gcH reach keysT keepK inKs AV.keys AV.keysL Ty.isAgg eq1 eqL convA.go ltI w_u8 w_u32 w_u64 w_i64 w_fdiv w_tdiv w_tmod IntKind.bits unA sc_int sc_bool sc_str sc_sl sc_ref sc_ptr sc_pel sc_nilp sc_fn sc_nilf sc_if sc_nili sc_agg sc_tup sc_mem bs_pure bs_kl bs_length bs_cells bs_all sl_row sealRow sealY sl_int sl_bool sl_str sl_sl sl_nilp sl_nilf sl_nili sl_pel sl_agg sl_tup sl_fn sl_if nat_1 bs_cons bs_nil i_beq i_bne x_mkF x_mkI x_tassert x_panic s_pan s_sqp s_bkp s_finp s_fixp s_lpp s_rgp s_retp s_site s_stxN s_stxO x_callT clx El.avs_len s_dyn0 s_rgy barOf dynChk footL dynOK disjK keysOp opVals Op.operands
section
open Ab Go TabE Sp E40 E41
namespace E47
theorem a31 (x : Int) (h0 : 0 ≤ x) (h1 : x < 256) : intOp .and .u8 x 31 = some (.int .u8 (x % 32)) := by
  have q : ∀ n : Fin 256, IntKind.u8.wrap (BitVec.ofInt 8 (n.val : Int) &&& BitVec.ofInt 8 31).toNat = (n.val : Int) % 32 := by decide +kernel
  obtain ⟨n, rfl⟩ := Int.eq_ofNat_of_zero_le h0
  have := q ⟨n, by omega⟩
  show some (AV.int .u8 (IntKind.u8.wrap (BitVec.ofInt 8 (n : Int) &&& BitVec.ofInt 8 31).toNat)) = _
  rw [this]
theorem a32 (x : Int) (h0 : 0 ≤ x) (h1 : x < 256) : intOp .and .u8 x 32 = some (.int .u8 (x / 32 % 2 * 32)) := by
  have q : ∀ n : Fin 256, IntKind.u8.wrap (BitVec.ofInt 8 (n.val : Int) &&& BitVec.ofInt 8 32).toNat = (n.val : Int) / 32 % 2 * 32 := by decide +kernel
  obtain ⟨n, rfl⟩ := Int.eq_ofNat_of_zero_le h0
  have := q ⟨n, by omega⟩
  show some (AV.int .u8 (IntKind.u8.wrap (BitVec.ofInt 8 (n : Int) &&& BitVec.ofInt 8 32).toNat)) = _
  rw [this]
theorem get (f c) (xs : List Int) (hb : isB xs) : Con E 60 95 [.sl f (bs xs) c] (.tup [.agg [.int .u8 (gt xs).1.1, .bool (gt xs).1.2.1, .int .u32 (gt xs).1.2.2], .int .i64 (gt xs).2.1, .int .i64 (gt xs).2.2]) := by
  refine con_of E_fn95 (by simp [AV.pureL, AV.pure]) (Nat.le_of_ble_eq_true rfl) rfl rfl (g := []) ?_
  rw [body_95, c95]
  cases xs with
  | nil => simp [gt, bs_nil]
  | cons x r =>
    have xb := hb x (List.mem_cons_self ..)
    have N := E46.number f c x r hb 59 (by omega) 0
    have T := fun n => E2.tag_ok (x / 64) (decide (x / 32 % 2 = 1)) n 59 (by omega) 0
    have h1 := a31 x xb.1 xb.2
    have h2 := a32 x xb.1 xb.2
    simp only [intOp] at h1 h2
    simp [IntKind.bits, w_u8] at h1 h2
    have ix : ∀ hp, indexAddrA E 22 (.sl f (bs (x :: r)) c) (.int .i64 0) hp = some (.pel [.int .u8 x]) := byte_at f c (x :: r) 0 x rfl
    have gz : gt (x :: r) = (let p := if x % 32 = 31 then num r 1 0 else (x % 32, 1, 0)
      let e := if p.2.2 = 0 then tagE (x / 64) (decide (x / 32 % 2 = 1)) p.1 else p.2.2
      if e ≠ 0 then ((0, false, 0), 0, e) else ((x / 64, decide (x / 32 % 2 = 1), p.1), p.2.1, 0)) := rfl
    have ne : (x :: r).length ≠ 0 := by simp
    obtain ⟨xs, hxs⟩ : ∃ xs, x :: r = xs := ⟨_, rfl⟩
    rw [gz]
    rw [hxs] at N ix ne ⊢
    obtain ⟨p, hp⟩ : ∃ p, num r 1 0 = p := ⟨_, rfl⟩
    rw [hp] at N ⊢
    have w8 : (x % 32) % 4294967296 = x % 32 := Int.emod_eq_of_lt (by omega) (by omega)
    have w9 : (x / 64) % 256 = x / 64 := Int.emod_eq_of_lt (by omega) (by omega)
    have bk : (!decide (x / 32 % 2 * 32 = 0)) = decide (x / 32 % 2 = 1) := by
      by_cases q : x / 32 % 2 = 1
      · rw [q]; rfl
      · have : x / 32 % 2 = 0 := by omega
        rw [this]; rfl
    by_cases h31 : x % 32 = 31
    · by_cases pe : p.2.2 = 0
      · by_cases te : tagE (x / 64) (decide (x / 32 % 2 = 1)) p.1 = 0
        · simp [-indexAddrA, ix, N, T, h1, h2, h31, pe, te, ne, w8, w9, bk]
        · simp [-indexAddrA, ix, N, T, h1, h2, h31, pe, te, ne, w8, w9, bk]
      · simp [-indexAddrA, ix, N, T, h1, h2, h31, pe, ne, w8, w9, bk]
    · by_cases te : tagE (x / 64) (decide (x / 32 % 2 = 1)) (x % 32) = 0
      · simp [-indexAddrA, ix, N, T, h1, h2, h31, te, ne, w8, w9, bk]
      · simp [-indexAddrA, ix, N, T, h1, h2, h31, te, ne, w8, w9, bk]
end E47
end
section
open Ab Go TabE Sp E40 E53 E56 E57
namespace E58
def retA : Option (ARes × Heap) → Option (ARes × Option AObj)
  | some (r, h) => some (r, lookK h (0, 0, 0))
  | none => none
theorem retA_eq {x : Option (ARes × Heap)} {r o} (h : retA x = some (r, o)) : ∃ hf, x = some (r, hf) ∧ lookK hf (0, 0, 0) = o := by
  unfold retA at h
  split at h
  · cases h; exact ⟨_, rfl, rfl⟩
  · cases h
abbrev Go1 (K : Nat) (fl : Bool) (b : List Int) (cp : Option Nat) (a e : Nat) (d m : Int) := finA E fn73 (aCode E (site fn73 (aRun E K)) (dcall (aRun E K)) K 1 fn73 fn73.body ⟨frame0 [.ptr (0, 0, 0) 0, .int .i64 (a : Int), .int .i64 (e : Int), .int .i64 d] 0, [((0, 0, 0), R fl b cp m)]⟩)
abbrev What (K : Nat) (fl : Bool) (b : List Int) (cp : Option Nat) (a e : Nat) (d m : Int) (r : Rr) : Prop := match r with
  | .ok c n m' => retA (Go1 K fl b cp a e d m) = some (.ret (.tup [(dec1 c).av, .int .i64 (n : Int)]), some (R fl b cp m'))
  | .bad x y => ∃ m', retA (Go1 K fl b cp a e d m) = some (.panic [flt x y], some (R fl b cp m'))
abbrev St1 (fl : Bool) (b : List Int) (cp : Option Nat) (c n d m : Int) (a e : Nat) : St := ⟨[(0, .ptr (0, 0, 0) 0), (1, .int .i64 (a : Int)), (2, .int .i64 (e : Int)), (3, .int .i64 d), (8, .ptr (1, 8, 0) 0), (14, .ptr (1, 14, 0) 0), (114, .bool false)], [((0, 0, 0), R fl b cp m), ((1, 8, 0), bx Z), ((1, 14, 0), bx [.int .u8 c, .bool true, .int .u32 n, .sl true [] (some 0), .sl true [] (some 0)])]⟩
theorem cl1 (fl b cp c n d m a e) : cleanS 1 ((firstReg lpE).bind fn73.head) (St1 fl b cp c n d m a e) = cleanS 1 ((firstReg lpE).bind fn73.head) (E56.St0 fl b cp c n d m a e) := rfl
theorem step (f : Nat) (ih : ∀ j, j < f + 1 → Kn j) (K : Nat) (hK : f + 200 ≤ K) (fl : Bool) (b : List Int) (cp : Option Nat) (a e : Nat) (d m : Int) (hn : fl = true → b = []) (hb : isB b) (lb : b.length ≤ 100000000) (ha : a ≤ e) (he : e ≤ b.length) (d0 : 0 ≤ d) (d1 : d ≤ 17) (m0 : 0 ≤ m) (m1 : m ≤ 8192) (hf : e - a + 1 ≤ f + 1) : What K fl b cp a e d m (rd (f + 1) b a e d m) := by
  have cut1 := cutR fl cp b a e ha he
  have T := E47.get fl (cp.map fun q => q - a) _ (E55.isB_sub hb a e) K (by omega) 0
  have xl := xs_len b (a := a) he
  by_cases te0 : (gt ((b.take e).drop a)).2.2 = 0
  case neg =>
    have g := gt_n _ te0
    rw [rd_tag te0]
    generalize (gt ((b.take e).drop a)).2.2 = te at g te0
    rw [g] at T
    by_cases t7 : te = 7
    · subst t7; rw [if_pos rfl]; refine ⟨m, ?_⟩; rw [Go1, body_73, c73]; simp [-sliceA, cut1, T, retA]
    · rw [if_neg t7]; refine ⟨m, ?_⟩; rw [Go1, body_73, c73]; simp [-sliceA, cut1, T, retA, t7, te0]
  obtain ⟨⟨⟨c, k, n⟩, ts, te⟩, hg⟩ : ∃ g, gt ((b.take e).drop a) = g := ⟨_, rfl⟩
  rw [hg] at te0
  simp only at te0
  subst te0
  obtain ⟨r, x1, rfl, t1, t2, t3⟩ := gt_back _ (E55.isB_sub hb a e) c k n ts hg
  have tb := tagO_len c k n
  rw [x1, List.length_append] at xl
  have x2 : (b.take e).drop (a + (TG.tagO c k n).length) = r := by rw [← List.drop_drop, x1, List.drop_left']; rfl
  generalize (TG.tagO c k n).length = tl at *
  rw [hg] at T
  have t3' := tagE_3 t1
  have w1 := w64' ((a : Int) + tl) (by omega) (by omega)
  have w7 := w64' (m + 1) (by omega) (by omega)
  have cut2 := cutR fl cp b (a + tl) e (by omega) he
  rw [Int.natCast_add] at cut2
  have LG := E50.lget fl (cp.map fun q => q - (a + tl)) _ (E55.isB_sub hb (a + tl) e) K (by omega) 0
  obtain ⟨⟨L, lS, le⟩, hl⟩ : ∃ g, gl ((b.take e).drop (a + tl)) = g := ⟨_, rfl⟩
  have hl2 := hl
  rw [x2] at hl2
  rw [hl] at LG
  by_cases d16 : 16 < d
  · have : rd (f + 1) b a e d m = .bad a 12 := by
      rw [rd]; simp only [hg, Int.toNat_natCast]; rw [if_neg (by omega), if_neg (by simp), if_pos d16]
    rw [this]
    refine ⟨m, ?_⟩; rw [Go1, body_73, c73]
    simp [-sliceA, cut1, T, retA, d16]
  by_cases m8 : m = 8192
  · have : rd (f + 1) b a e d m = .bad a 3 := by
      rw [rd]; simp only [hg, Int.toNat_natCast]; rw [if_neg (by omega), if_neg (by simp), if_neg d16, if_pos m8]
    rw [this]
    refine ⟨m, ?_⟩; rw [Go1, body_73, c73]
    simp [-sliceA, cut1, T, retA, d16, m8]
  by_cases le0 : le = 0
  case neg =>
    have := gl_n r (by rw [hl2]; exact le0)
    rw [hl2] at this
    simp only [Prod.mk.injEq] at this
    obtain ⟨rfl, rfl, _⟩ := this
    rw [rd_eq (ll := 0) hg hl, if_neg (by omega), if_neg (by simp), if_neg d16, if_neg m8]
    by_cases l7 : le = 7
    · subst l7; rw [if_pos rfl]; refine ⟨m + 1, ?_⟩; rw [Go1, body_73, c73]; simp [-sliceA, cut1, cut2, T, LG, retA, d16, m8, w1, w7]
    · rw [if_neg l7, if_pos le0]; refine ⟨m + 1, ?_⟩; rw [Go1, body_73, c73]; simp [-sliceA, cut1, cut2, T, LG, retA, d16, m8, w1, w7, l7, le0]
  subst le0
  have rb : isB r := by rw [← x2]; exact E55.isB_sub hb _ e
  obtain ⟨r2, x3, rfl, l1, l2⟩ := gl_back r rb L lS hl2
  have ll1 := lenO_len L
  have xr := xs_len b (a := a + tl) he
  rw [x2, x3, List.length_append] at xr
  generalize (lenO L).length = ll at *
  obtain ⟨n', rfl⟩ := Int.eq_ofNat_of_zero_le l1
  rw [rd_eq hg hl, if_neg (by omega), if_neg (by simp), if_neg d16, if_neg m8, if_neg (by omega), if_neg (by simp), Int.toNat_natCast]
  have w2 := w64' ((e : Int) - ((a : Int) + tl)) (by omega) (by omega)
  have w4 := w64' ((e : Int) - ((a : Int) + tl) - ll) (by omega) (by omega)
  by_cases big : e < a + tl + ll + n'
  · have b2 : (e : Int) - ((a : Int) + tl) - ll < n' := by omega
    rw [if_pos big]
    refine ⟨m + 1, ?_⟩; rw [Go1, body_73, c73]
    simp [-sliceA, cut1, cut2, T, LG, retA, d16, m8, w1, w2, w4, w7, b2]
  have b2 : ¬ (e : Int) - ((a : Int) + tl) - ll < n' := by omega
  rw [if_neg big]
  have w5 := w64' ((a : Int) + tl + ll) (by omega) (by omega)
  have w6 := w64' ((a : Int) + tl + ll + n') (by omega) (by omega)
  have ec : ((a + tl + ll : Nat) : Int) = (a : Int) + tl + ll := by omega
  have ec2 : ((a + tl + ll + n' : Nat) : Int) = (a : Int) + tl + ll + n' := by omega
  cases k with
  | false =>
    rw [if_pos rfl]
    have cut3 := cutR fl cp b (a + tl + ll) (a + tl + ll + n') (by omega) (by omega)
    rw [ec, ec2] at cut3
    have cl := xs_len b (a := a + tl + ll) (e := a + tl + ll + n') (by omega)
    generalize (b.take (a + tl + ll + n')).drop (a + tl + ll) = y at cut3 cl ⊢
    have fl0 : fl = false := by
      cases hfl : fl with
      | false => rfl
      | true => exfalso; have := hn hfl; subst this; simp at he; omega
    subst fl0
    obtain ⟨cq, hcq, C⟩ := E31.clone false y (cp.map fun q => q - (a + tl + ll)) (fun q => by cases q) (by omega)
    have P := E31.clip false y cq hcq K (by omega) 0
    have C' := C K (by omega) 0
    rw [What, Go1, body_73, c73]
    simp [-sliceA, cut1, cut2, cut3, T, LG, C', P, retA, d16, m8, w1, w2, w4, w5, w6, w7, b2, dec1, decs1, El.av, El.avs]
  | true =>
    rw [if_neg (by simp)]
    have LP := E57.loop K fl b cp c n d (a + tl + ll + n') hn hb lb (by omega) d0 (by omega) f (fun j hj => ih j (by omega)) (by omega) (a + tl + ll) (m + 1) [] K (by omega) (by omega) (by omega) (by simp; omega) (by omega) (by omega)
    rw [Sx, if_pos rfl, E57.Lp, ← E51.aLoop_cl (cl1 fl b cp c n d (m + 1) (a + tl + ll) (a + tl + ll + n'))] at LP
    cases hr : rds f b (a + tl + ll) (a + tl + ll + n') (d + 1) (m + 1) with
    | inr p =>
      obtain ⟨x, y⟩ := p
      rw [hr] at LP
      obtain ⟨m', LP⟩ := LP
      obtain ⟨s, LP, hs⟩ := panA_eq LP
      refine ⟨m', ?_⟩
      rw [Go1, body_73, c73]
      simp [St1, lpE, lp, lps, c73, firstReg, E53.Z, bx, R] at LP
      simp [-s_round, -sliceA, cut1, cut2, T, LG, LP, hs, retA, d16, m8, w1, w2, w4, w5, w6, w7, b2]
    | inl p =>
      obtain ⟨s, m'⟩ := p
      rw [hr] at LP
      simp only at LP
      obtain ⟨a2, LP⟩ := LP
      rw [List.nil_append, En] at LP
      simp only
      rw [What, Go1, body_73, c73]
      cases s with
      | nil =>
        have cl := E56.clipE true [] (some 0) rfl K (by omega) 0
        rw [decs1, if_pos rfl] at LP
        simp [St1, lpE, lp, lps, c73, firstReg, E53.Z, bx, R] at LP
        simp at cl
        simp [-s_round, -sliceA, cut1, cut2, T, LG, LP, retA, d16, m8, w1, w2, w4, w5, w6, w7, b2, dec1, decs1, El.av, El.avs, cl]
      | cons x s =>
        rw [if_neg (by rw [decs1]; simp)] at LP
        have ln := decs1_len (x :: s)
        have ds : dec1 (.mk c true n [] (x :: s)) = .mk c true n true [] (some 0) false (decs1 (x :: s)) (some (decs1 (x :: s)).length) := by rw [dec1, ln]; rfl
        rw [ds, El.av]
        generalize decs1 (x :: s) = l at LP ⊢
        have cl := E56.clipE false (El.avs l) none (El.avs_pure l) K (by omega) 0
        rw [El.avs_len] at cl
        simp [St1, lpE, lp, lps, c73, firstReg, E53.Z, bx, R] at LP
        have l1 := El.fl_len l
        have l2 := El.fl_keys l
        have l3 := El.fl_pure l
        have sx := fun n h key => E32.sealX_fl n h key l none true false
        simp [-s_round, -sliceA, cut1, cut2, T, LG, LP, retA, d16, m8, w1, w2, w4, w5, w6, w7, b2, l1, l2, l3, sx, cl]
end E58
end
section
open Ab Go TabE Sp E40 E53 E56 E57
namespace E59
theorem elem : ∀ f : Nat, E57.Kn f := by
  intro f
  induction f using Nat.strongRecOn with
  | ind f ih =>
    cases f with
    | zero => intro fl b cp a e d m _ _ _ _ _ _ _ _ _ h; omega
    | succ f =>
      intro fl b cp a e d m hn hb lb ha he d0 d1 m0 m1 hf
      have W := E58.step f ih (f + 200) (Nat.le_refl _) fl b cp a e d m hn hb lb ha he d0 d1 m0 m1 hf
      have run : ∀ r hf', E58.Go1 (f + 200) fl b cp a e d m = some (r, hf') → ∀ q, f + 1 + 200 ≤ q → aRun E q 73 [.ptr (0, 0, 0) 0, .int .i64 (a : Int), .int .i64 (e : Int), .int .i64 d] [((0, 0, 0), R fl b cp m)] = some (r, hf') := by
        intro r hf' hg q hq
        refine aRun_le E (f + 200 + 1) q (by omega) _ _ _ _ ?_
        rw [aRun_fn rfl E_fn73 rfl (Nat.le_of_ble_eq_true rfl)]
        exact hg
      cases hr : rd (f + 1) b a e d m with
      | ok c n m' =>
        rw [hr] at W
        obtain ⟨hf', w1, w2⟩ := E58.retA_eq W
        exact ⟨hf', w2, run _ _ w1⟩
      | bad x y =>
        rw [hr] at W
        obtain ⟨m', W⟩ := W
        obtain ⟨hf', w1, w2⟩ := E58.retA_eq W
        exact ⟨hf', m', w2, run _ _ w1⟩
theorem aCall_grd {E : Env} {f : FuncId} {fn : AFn} {gd : Grd} {args : List AV} {k slot : Nat} {h : Heap} (h1 : E.prim f = none) (h2 : E.fn f = some fn) (h3 : E.grd f = some gd) (h4 : AV.pureL args = true) (h5 : args.length ≤ fn.ntmps) :
    aCall E (k + 1) slot f args h = sealR h (grdP E (aRun E k) k fn gd (aCodes E (site fn (aRun E k)) (dcall (aRun E k)) k 1 fn gd.pre ⟨frame0 args 0, []⟩)) := by
  show sealed (aRun E (k + 1)) slot f args h = _
  unfold sealed
  rw [sealL_of_pure 19 args h h4]
  simp only [h4, if_true, aRun, h1, h2, h3, h5]
theorem con_grd {f : FuncId} {fn : AFn} {gd : Grd} {args : List AV} {v : AV} {K : Nat} {g : Heap} (h2 : E.fn f = some fn) (h3 : E.grd f = some gd) (h4 : AV.pureL args = true) (h5 : args.length ≤ fn.ntmps)
    (h : sealR [] (grdP E (aRun E K) K fn gd (aCodes E (site fn (aRun E K)) (dcall (aRun E K)) K 1 fn gd.pre ⟨frame0 args 0, []⟩)) = some (.ret v, g)) (h1 : E.prim f = none := by rfl) : Con E (K + 1) f args v := by
  refine .of (g := g) h4 ?_
  rw [aCall_grd h1 h2 h3 h4 h5]
  exact h
abbrev H4 : Heap := [((1, 2, 0), bx Z), ((1, 3, 0), bx [.int .i64 0]), ((1, 4, 0), bx [.int .i64 0]), ((1, 5, 0), bx [.int .i64 0])]
abbrev F4 (fl : Bool) (b : List Int) (cp : Option Nat) : Fr := [(0, .sl fl (bs b) cp), (2, .ptr (1, 2, 0) 0), (3, .ptr (1, 3, 0) 0), (4, .ptr (1, 4, 0) 0), (5, .ptr (1, 5, 0) 0)]
theorem pre (K : Nat) (fl b cp) (hl : b.length ≤ 1048576) : aCodes E (site fn23 (aRun E K)) (dcall (aRun E K)) K 1 fn23 grd23.pre ⟨frame0 [.sl fl (bs b) cp] 0, []⟩ = some (.normal, ⟨F4 fl b cp ++ [(9, .bool false)], H4⟩) := by
  have h1 : ¬ (1048576 : Int) < b.length := by omega
  have h2 : ¬ 1048576 < b.length := by omega
  simp [grd23, aCodes, d23_0, d23_1, d23_2, h1, h2]
theorem long (fl b cp) (hl : 1048576 < b.length) : Con E 20 23 [.sl fl (bs b) cp] (.tup [zv, .int .i64 0, .int .i64 0, .int .i64 3]) := by
  refine con_grd E_fn23 E_grd23 (by simp [AV.pureL, AV.pure]) (Nat.le_of_ble_eq_true rfl) (g := []) ?_
  have h1 : (1048576 : Int) < b.length := by omega
  simp [grd23, aCodes, d23_0, d23_1, d23_2, h1, hl, grdP]
theorem dfr (run : RunF) (n : Nat) (h4 : Heap) (cs : List AV) (a b c : Int) (kc : AV.keysL cs = []) (rc : ∀ φ, AV.rnL φ cs = cs) (e1 : lookK h4 (1, 2, 0) = some (bx cs)) (e2 : lookK h4 (1, 3, 0) = some (bx [.int .i64 a])) (e3 : lookK h4 (1, 4, 0) = some (bx [.int .i64 b])) (e4 : lookK h4 (1, 5, 0) = some (bx [.int .i64 c])) (v : AV) (cs' : List AV) (a' b' c' : Int) (kc' : AV.keysL cs' = []) (rc' : ∀ φ, AV.rnL φ cs' = cs')
    (hr : ∃ ex t, (ex = AExit.normal ∨ ex = .ret) ∧ aCodes E (site gfn23 run) (dcall run) n 1 gfn23 grd23.gpost ⟨[(4, v), (7, v), (0, .ptr (0, 0, 0) 0), (1, .ptr (0, 0, 1) 0), (2, .ptr (0, 0, 2) 0), (3, .ptr (0, 0, 3) 0)], [((0, 0, 0), bx cs), ((0, 0, 1), bx [.int .i64 a]), ((0, 0, 2), bx [.int .i64 b]), ((0, 0, 3), bx [.int .i64 c])]⟩ = some (ex, ⟨t, [((0, 0, 0), bx cs'), ((0, 0, 1), bx [.int .i64 a']), ((0, 0, 2), bx [.int .i64 b']), ((0, 0, 3), bx [.int .i64 c'])]⟩)) :
    dfrA E run n grd23 v [.ptr (1, 2, 0) 0, .ptr (1, 3, 0) 0, .ptr (1, 4, 0) 0, .ptr (1, 5, 0) 0] h4 = some (.ret (.tup []), setK (setK (setK (setK h4 (1, 2, 0) (bx cs')) (1, 3, 0) (bx [.int .i64 a'])) (1, 4, 0) (bx [.int .i64 b'])) (1, 5, 0) (bx [.int .i64 c'])) := by
  obtain ⟨ex, t, hx, hr⟩ := hr
  unfold dfrA
  have ek : AV.keysL [AV.ptr (1, 2, 0) 0, .ptr (1, 3, 0) 0, .ptr (1, 4, 0) 0, .ptr (1, 5, 0) 0] = [(1, 2, 0), (1, 3, 0), (1, 4, 0), (1, 5, 0)] := rfl
  rw [ek]
  have er : dd (reach h4 3 [(1, 2, 0), (1, 3, 0), (1, 4, 0), (1, 5, 0)]) = [(1, 2, 0), (1, 3, 0), (1, 4, 0), (1, 5, 0)] := by simp [reach, e1, e2, e3, e4, kc, AV.keysL, AV.keys, dd]
  rw [er]
  unfold lendA
  have el : lendH h4 (inK [(1, 2, 0), (1, 3, 0), (1, 4, 0), (1, 5, 0)]) [(1, 2, 0), (1, 3, 0), (1, 4, 0), (1, 5, 0)] = some [((0, 0, 0), bx cs), ((0, 0, 1), bx [.int .i64 a]), ((0, 0, 2), bx [.int .i64 b]), ((0, 0, 3), bx [.int .i64 c])] := by simp [lendH, e1, e2, e3, e4, inK, posK, rc, AV.rnL, AV.rn]
  rw [el]
  simp only [ek]
  have ec : closedH h4 [(1, 2, 0), (1, 3, 0), (1, 4, 0), (1, 5, 0)] [(1, 2, 0), (1, 3, 0), (1, 4, 0), (1, 5, 0)] = true := by simp [closedH, e1, e2, e3, e4, kc, AV.keysL, AV.keys]
  rw [if_pos ⟨ec, by rfl⟩]
  have en : AV.rnL (inK [(1, 2, 0), (1, 3, 0), (1, 4, 0), (1, 5, 0)]) [AV.ptr (1, 2, 0) 0, .ptr (1, 3, 0) 0, .ptr (1, 4, 0) 0, .ptr (1, 5, 0) 0] = [.ptr (0, 0, 0) 0, .ptr (0, 0, 1) 0, .ptr (0, 0, 2) 0, .ptr (0, 0, 3) 0] := by rfl
  rw [en]
  have eg : (List.map (fun r => (r, v)) grd23.rs ++ frame0 [AV.ptr (0, 0, 0) 0, .ptr (0, 0, 1) 0, .ptr (0, 0, 2) 0, .ptr (0, 0, 3) 0] 0) = [(4, v), (7, v), (0, .ptr (0, 0, 0) 0), (1, .ptr (0, 0, 1) 0), (2, .ptr (0, 0, 2) 0), (3, .ptr (0, 0, 3) 0)] := rfl
  have er2 : grd23.gfn = gfn23 := rfl
  rw [if_pos ⟨rfl, by decide, by rfl⟩, eg, er2, hr]
  have fin : backR [(1, 2, 0), (1, 3, 0), (1, 4, 0), (1, 5, 0)] 0 h4 false (some (.ret (.tup []), [((0, 0, 0), bx cs'), ((0, 0, 1), bx [.int .i64 a']), ((0, 0, 2), bx [.int .i64 b']), ((0, 0, 3), bx [.int .i64 c'])])) = some (.ret (.tup []), setK (setK (setK (setK h4 (1, 2, 0) (bx cs')) (1, 3, 0) (bx [.int .i64 a'])) (1, 4, 0) (bx [.int .i64 b'])) (1, 5, 0) (bx [.int .i64 c'])) := by
    have e5 : lentKs 4 = [(0, 0, 0), (0, 0, 1), (0, 0, 2), (0, 0, 3)] := rfl
    have e6 : AV.keysL [AV.tup []] = [] := rfl
    have e7 : dd (reach [((0, 0, 0), bx cs'), ((0, 0, 1), bx [.int .i64 a']), ((0, 0, 2), bx [.int .i64 b']), ((0, 0, 3), bx [.int .i64 c'])] 3 ([(0, 0, 0), (0, 0, 1), (0, 0, 2), (0, 0, 3)] ++ [])) = [(0, 0, 0), (0, 0, 1), (0, 0, 2), (0, 0, 3)] := by simp [reach, lookK, kc', AV.keysL, AV.keys, dd]
    have e8 : closedH [((0, 0, 0), bx cs'), ((0, 0, 1), bx [.int .i64 a']), ((0, 0, 2), bx [.int .i64 b']), ((0, 0, 3), bx [.int .i64 c'])] [(0, 0, 0), (0, 0, 1), (0, 0, 2), (0, 0, 3)] [(0, 0, 0), (0, 0, 1), (0, 0, 2), (0, 0, 3)] = true := by simp [closedH, lookK, kc', AV.keysL, AV.keys]
    simp only [backR, Bool.false_eq_true, if_false, backV, Ab.back, List.length_cons, List.length_nil, e5, e6, e7, backA]
    rw [if_pos ⟨e8, by rfl, by rfl, by rfl⟩]
    simp [AV.rnL, AV.rn, outK, putAll, lookK, rc']
  rcases hx with rfl | rfl
  · exact fin
  · exact fin
end E59
end
section
open Ab Go TabE Sp E40 E53 E56 E57 E59
namespace E60
def res1 : Rr → AV
  | .ok c n m => .tup [(dec1 c).av, .int .i64 (n : Int), .int .i64 0, .int .i64 0]
  | .bad x y => .tup [zv, .int .i64 0, .int .i64 x, .int .i64 y]
abbrev F5 (fl : Bool) (b : List Int) (cp : Option Nat) : Fr := (11, .fn 72 [] [.ptr (1, 2, 0) 0, .ptr (1, 3, 0) 0, .ptr (1, 4, 0) 0, .ptr (1, 5, 0) 0]) :: (F4 fl b cp ++ [(9, .bool false)])
theorem post_ok (K : Nat) (fl b cp) (x : El) (n : Nat) (m : Int) (hl : b.length ≤ 1048576) (C : ∀ h, lookK h (2, 6, 0) = some (R fl b cp 0) → opened [true, false, false, false] true (aRun E K) 17 73 [.ptr (2, 6, 0) 0, .int .i64 0, .int .i64 (b.length : Int), .int .i64 1] h = some (.ret (.tup [x.av, .int .i64 (n : Int)]), setK h (2, 6, 0) (R fl b cp m))) :
    aCodes E (site fn23 (aRun E K)) (dcall (aRun E K)) K 2 fn23 grd23.post ⟨F5 fl b cp, H4⟩ = some (.ret, ⟨[(2, .ptr (1, 2, 0) 0), (3, .ptr (1, 3, 0) 0), (4, .ptr (1, 4, 0) 0), (5, .ptr (1, 5, 0) 0)], [((1, 2, 0), bx (ec x)), ((1, 3, 0), bx [.int .i64 (n : Int)]), ((1, 4, 0), bx [.int .i64 0]), ((1, 5, 0), bx [.int .i64 0])]⟩) := by
  rw [El.av_eq] at C
  simp [grd23, aCodes, d23_4, d23_5, d23_6, d23_7, C]
def panB : Option (AExit × St) → Option (List AV × List (Option AV) × List (Option AObj))
  | some (.panic ch, s) => some (ch, [lookT s.t 2, lookT s.t 3, lookT s.t 4, lookT s.t 5], [lookK s.h (1, 2, 0), lookK s.h (1, 3, 0), lookK s.h (1, 4, 0), lookK s.h (1, 5, 0)])
  | _ => none
theorem panB_eq {x : Option (AExit × St)} {ch a b} (h : panB x = some (ch, a, b)) : ∃ s, x = some (.panic ch, s) ∧ a = [lookT s.t 2, lookT s.t 3, lookT s.t 4, lookT s.t 5] ∧ b = [lookK s.h (1, 2, 0), lookK s.h (1, 3, 0), lookK s.h (1, 4, 0), lookK s.h (1, 5, 0)] := by
  unfold panB at h
  split at h
  · cases h; exact ⟨_, rfl, rfl, rfl⟩
  · cases h
theorem post_bad (K : Nat) (fl b cp) (x y m : Int) (hl : b.length ≤ 1048576) (C : ∀ h, lookK h (2, 6, 0) = some (R fl b cp 0) → opened [true, false, false, false] true (aRun E K) 17 73 [.ptr (2, 6, 0) 0, .int .i64 0, .int .i64 (b.length : Int), .int .i64 1] h = some (.panic [flt x y], setK h (2, 6, 0) (R fl b cp m))) :
    panB (aCodes E (site fn23 (aRun E K)) (dcall (aRun E K)) K 2 fn23 grd23.post ⟨F5 fl b cp, H4⟩) = some ([flt x y], [some (.ptr (1, 2, 0) 0), some (.ptr (1, 3, 0) 0), some (.ptr (1, 4, 0) 0), some (.ptr (1, 5, 0) 0)], [some (bx Z), some (bx [.int .i64 0]), some (bx [.int .i64 0]), some (bx [.int .i64 0])]) := by
  simp [grd23, aCodes, d23_4, d23_5, d23_6, d23_7, C, s_retp2, panB]
abbrev Hd (cs : List AV) (a b c : Int) : Heap := [((0, 0, 0), bx cs), ((0, 0, 1), bx [.int .i64 a]), ((0, 0, 2), bx [.int .i64 b]), ((0, 0, 3), bx [.int .i64 c])]
def normA : Option (AExit × St) → Option Heap
  | some (.normal, s) => some s.h
  | _ => none
theorem normA_eq {x : Option (AExit × St)} {h} (e : normA x = some h) : ∃ ex t, (ex = AExit.normal ∨ ex = .ret) ∧ x = some (ex, ⟨t, h⟩) := by
  unfold normA at e
  split at e
  · cases e; exact ⟨_, _, .inl rfl, rfl⟩
  · cases e
theorem o_ni {E : Env} {t : Fr} : opd E t (.const .nilIface) = some .nili := rfl
theorem gp_ok (run : RunF) (n : Nat) (cs : List AV) (a b c : Int) (kc : AV.keysL cs = []) : normA (aCodes E (site gfn23 run) (dcall run) n 1 gfn23 grd23.gpost ⟨[(4, .nili), (7, .nili), (0, .ptr (0, 0, 0) 0), (1, .ptr (0, 0, 1) 0), (2, .ptr (0, 0, 2) 0), (3, .ptr (0, 0, 3) 0)], Hd cs a b c⟩) = some (Hd cs a b c) := by
  simp [normA, grd23, gfn23, aCodes, e23_0, e23_1, o_ni, kc]
theorem gp_bad (run : RunF) (n : Nat) (x y : Int) : normA (aCodes E (site gfn23 run) (dcall run) n 1 gfn23 grd23.gpost ⟨[(4, flt x y), (7, flt x y), (0, .ptr (0, 0, 0) 0), (1, .ptr (0, 0, 1) 0), (2, .ptr (0, 0, 2) 0), (3, .ptr (0, 0, 3) 0)], Hd Z 0 0 0⟩) = some (Hd Z 0 x y) := by
  simp [normA, grd23, gfn23, aCodes, e23_0, e23_1, o_ni, flt]
theorem next (fl : Bool) (b : List Int) (cp : Option Nat) (hn : fl = true → b = []) (hb : isB b) (hl : b.length ≤ 1048576) : Con E (b.length + 300) 23 [.sl fl (bs b) cp] (res1 (rd (b.length + 2) b 0 b.length 1 0)) := by
  obtain ⟨K, hK⟩ : ∃ K, b.length + 299 = K := ⟨_, rfl⟩
  have eK : b.length + 300 = K + 1 := by omega
  rw [eK]
  have W := E59.elem (b.length + 2) fl b cp 0 b.length 1 0 hn hb (by omega) (by omega) (Nat.le_refl _) (by omega) (by omega) (by omega) (by omega) (by omega)
  have cv : opdL E (F4 fl b cp ++ [(9, .bool false)]) (grd23.caps.map Operand.tmp) = some [.ptr (1, 2, 0) 0, .ptr (1, 3, 0) 0, .ptr (1, 4, 0) 0, .ptr (1, 5, 0) 0] := rfl
  cases hr : rd (b.length + 2) b 0 b.length 1 0 with
  | ok c n m =>
    rw [hr] at W
    obtain ⟨hf, q1, q2⟩ := W
    have P := post_ok K fl b cp (dec1 c) n m hl fun h hk => E56.op_ok hk rfl (R_keys _ _ _ _) (fun φ => R_rn _ _ _ _ φ) rfl (R_keys _ _ _ _) (fun φ => R_rn _ _ _ _ φ) (by simp [AV.pure, AV.pureL, El.av_pure]) (q2 K (by omega)) q1
    have kc : AV.keysL (ec (dec1 c)) = [] := rfl
    have D := dfr (aRun E K) K [((1, 2, 0), bx (ec (dec1 c))), ((1, 3, 0), bx [.int .i64 (n : Int)]), ((1, 4, 0), bx [.int .i64 0]), ((1, 5, 0), bx [.int .i64 0])] (ec (dec1 c)) (n : Int) 0 0 kc (fun φ => rfl) rfl rfl rfl rfl .nili (ec (dec1 c)) n 0 0 kc (fun φ => rfl) (normA_eq (gp_ok (aRun E K) K _ _ _ _ kc))
    refine con_grd E_fn23 E_grd23 (by simp [AV.pureL, AV.pure]) (Nat.le_of_ble_eq_true rfl) (g := []) ?_
    rw [pre K fl b cp hl]
    simp only [grdP, cv]
    show sealR [] (match putT 22 (F4 fl b cp ++ [(9, .bool false)]) (some 11) (.fn 72 [] [.ptr (1, 2, 0) 0, .ptr (1, 3, 0) 0, .ptr (1, 4, 0) 0, .ptr (1, 5, 0) 0]) with
      | some t => if (AV.keysL [.ptr (1, 2, 0) 0, .ptr (1, 3, 0) 0, .ptr (1, 4, 0) 0, .ptr (1, 5, 0) 0]).all (fun k => decide (k.1 < 2)) = true then grdR E (aRun E K) K fn23 grd23 [.ptr (1, 2, 0) 0, .ptr (1, 3, 0) 0, .ptr (1, 4, 0) 0, .ptr (1, 5, 0) 0] (aCodes E (site fn23 (aRun E K)) (dcall (aRun E K)) K 2 fn23 grd23.post ⟨t, H4⟩) else none
      | none => none) = _
    have pt : putT 22 (F4 fl b cp ++ [(9, .bool false)]) (some 11) (.fn 72 [] [.ptr (1, 2, 0) 0, .ptr (1, 3, 0) 0, .ptr (1, 4, 0) 0, .ptr (1, 5, 0) 0]) = some (F5 fl b cp) := rfl
    rw [pt]
    simp only
    rw [if_pos (by rfl), P]
    simp only [grdR, D, grdE, res1]
    rw [El.av_eq]
    simp []
  | bad x y =>
    rw [hr] at W
    obtain ⟨hf, m, q1, q2⟩ := W
    have P := post_bad K fl b cp x y m hl fun h hk => E56.op_bad hk rfl (R_keys _ _ _ _) (fun φ => R_rn _ _ _ _ φ) rfl (R_keys _ _ _ _) (fun φ => R_rn _ _ _ _ φ) rfl (q2 K (by omega)) q1
    obtain ⟨s, P, p1, p2⟩ := panB_eq P
    simp only [List.cons.injEq, and_true] at p1 p2
    obtain ⟨a1, a2, a3, a4⟩ := p1
    obtain ⟨b1, b2, b3, b4⟩ := p2
    have D := dfr (aRun E K) K s.h Z 0 0 0 rfl (fun φ => rfl) b1.symm b2.symm b3.symm b4.symm (flt x y) Z 0 x y rfl (fun φ => rfl) (normA_eq (gp_bad (aRun E K) K x y))
    refine con_grd E_fn23 E_grd23 (by simp [AV.pureL, AV.pure]) (Nat.le_of_ble_eq_true rfl) (g := []) ?_
    rw [pre K fl b cp hl]
    simp only [grdP, cv]
    show sealR [] (match putT 22 (F4 fl b cp ++ [(9, .bool false)]) (some 11) (.fn 72 [] [.ptr (1, 2, 0) 0, .ptr (1, 3, 0) 0, .ptr (1, 4, 0) 0, .ptr (1, 5, 0) 0]) with
      | some t => if (AV.keysL [.ptr (1, 2, 0) 0, .ptr (1, 3, 0) 0, .ptr (1, 4, 0) 0, .ptr (1, 5, 0) 0]).all (fun k => decide (k.1 < 2)) = true then grdR E (aRun E K) K fn23 grd23 [.ptr (1, 2, 0) 0, .ptr (1, 3, 0) 0, .ptr (1, 4, 0) 0, .ptr (1, 5, 0) 0] (aCodes E (site fn23 (aRun E K)) (dcall (aRun E K)) K 2 fn23 grd23.post ⟨t, H4⟩) else none
      | none => none) = _
    have pt : putT 22 (F4 fl b cp ++ [(9, .bool false)]) (some 11) (.fn 72 [] [.ptr (1, 2, 0) 0, .ptr (1, 3, 0) 0, .ptr (1, 4, 0) 0, .ptr (1, 5, 0) 0]) = some (F5 fl b cp) := rfl
    rw [pt]
    simp only
    rw [if_pos (by rfl), P]
    obtain ⟨st, sh⟩ := s
    simp only at a1 a2 a3 a4 D
    have pf : (flt x y).pure = true := rfl
    simp only [grdR, pf, if_true, D, grdE, res1]
    obtain ⟨h1, e1⟩ : ∃ h1, setK (setK (setK (setK sh (1, 2, 0) (bx Z)) (1, 3, 0) (bx [.int .i64 0])) (1, 4, 0) (bx [.int .i64 x])) (1, 5, 0) (bx [.int .i64 y]) = h1 := ⟨_, rfl⟩
    have l2 : lookK h1 (1, 2, 0) = some (bx Z) := by rw [← e1]; simp [lookK_setK]
    have l3 : lookK h1 (1, 3, 0) = some (bx [.int .i64 0]) := by rw [← e1]; simp [lookK_setK]
    have l4 : lookK h1 (1, 4, 0) = some (bx [.int .i64 x]) := by rw [← e1]; simp [lookK_setK]
    have l5 : lookK h1 (1, 5, 0) = some (bx [.int .i64 y]) := by rw [← e1]; simp [lookK_setK]
    rw [e1]
    simp [← a1, ← a2, ← a3, ← a4, l2, l3, l4, l5, zv]
end E60
end
section
open Ab Go TabE Sp E40 E53 E56
namespace Sp
theorem okc_eq (e : El) : okc e.core ↔ 0 ≤ e.c ∧ 0 ≤ e.n ∧ isB e.b ∧ okcs (El.cores e.s) := by rw [El.core_eq, okc]
theorem okcs_all : ∀ {l : List El}, okcs (El.cores l) ↔ ∀ x ∈ l, okc x.core
  | [] => by simp [El.cores, okcs]
  | e :: r => by rw [El.cores, okcs, okcs_all (l := r)]; simp
theorem encs_ge : ∀ l : List El, l.length ≤ (encs (El.cores l)).length
  | [] => by simp
  | e :: r => by rw [El.cores, encs, List.length_append, List.length_cons]; have := enc_len2 e.core; have := encs_ge r; omega
theorem ok_of : ∀ e : El, okc e.core → vld e.core → (enc e.core).length ≤ 1000000000 → e.ok ∧ e.sm := by
  refine El.ind fun e ih ho hv hl => ?_
  obtain ⟨o1, o2, o3, o4⟩ := (okc_eq e).1 ho
  obtain ⟨v1, v2, v3, v4⟩ := (vld_eq e).1 hv
  obtain ⟨t1, t2⟩ := tagE_3 v1
  rw [enc_eq, List.length_append, List.length_append, List.length_append] at hl
  have g := encs_ge e.s
  have sub : ∀ x ∈ e.s, x.ok ∧ x.sm := fun x hx => ih x hx (okcs_all.1 o4 x hx) (vlds_all.1 v4 x hx) (by have := E18.encs_mem hx; omega)
  exact ⟨(El.ok_eq e).2 ⟨⟨o1, by omega⟩, ⟨o2, by omega⟩, o3, by omega, by omega, fun x hx => (sub x hx).1⟩, (El.sm_eq e).2 ⟨by omega, by omega, fun x hx => (sub x hx).2⟩⟩
theorem okc_of : ∀ e : El, e.ok → okc e.core := by
  refine El.ind fun e ih h => ?_
  exact (okc_eq e).2 ⟨h.cb.1, h.nb.1, h.bb, okcs_all.2 fun x hx => ih x hx (h.sub x hx)⟩
mutual
theorem dec1_ex : ∀ c : Cr, E13.Exact (dec1 c)
  | .mk c k n b s => by rw [dec1]; exact .mk _ rfl (by simp [El.cs, El.s, decs1_len]) (decs1_ex s)
theorem decs1_ex : ∀ s : List Cr, ∀ x ∈ decs1 s, E13.Exact x
  | [], x, h => by cases h
  | y :: s, x, h => by
    rw [decs1] at h
    rcases List.mem_cons.1 h with rfl | h
    · exact dec1_ex y
    · exact decs1_ex s x h
end
def rg (b : List Int) : Rr := if 1048576 < b.length then .bad 0 3 else match rd (b.length + 2) b 0 b.length 1 0 with
  | .bad x y => .bad x y
  | .ok c n m => if n < b.length then .bad n 8 else .ok c n m
theorem rg_ok {b : List Int} (hb : isB b) {c n m} (h : rg b = .ok c n m) : b.length ≤ 1048576 ∧ enc c = b ∧ okc c ∧ vld c ∧ cnt c ≤ 8192 ∧ dep c ≤ 16 := by
  unfold rg at h
  split at h
  · cases h
  split at h
  · cases h
  · rename_i c' n' m' hr
    split at h
    · cases h
    · cases h
      have R := rd_back _ b 0 b.length 1 0 c n m hb (Nat.le_refl _) (by omega) (by omega) hr
      have r1 := R.r
      have x := R.x
      obtain rfl : n = b.length := by omega
      rw [List.drop_zero, List.take_length] at x
      exact ⟨by omega, x.symm, R.o, R.v, by have := R.n; have := R.k; omega, by have := R.d; omega⟩
end Sp
namespace E61
def av1 : Rr → AV
  | .ok c n m => .tup [(dec1 c).av, .int .i64 0, .int .i64 0]
  | .bad x y => .tup [zv, .int .i64 x, .int .i64 y]
theorem get (fl : Bool) (b : List Int) (cp : Option Nat) (hn : fl = true → b = []) (hb : isB b) : Con E (b.length + 310) 34 [.sl fl (bs b) cp] (av1 (rg b)) := by
  obtain ⟨K, hK⟩ : ∃ K, b.length + 309 = K := ⟨_, rfl⟩
  have eK : b.length + 310 = K + 1 := by omega
  rw [eK]
  refine con_of E_fn34 (by simp [AV.pureL, AV.pure]) (Nat.le_of_ble_eq_true rfl) rfl rfl (g := []) ?_
  rw [body_34, c34]
  unfold rg
  by_cases long : 1048576 < b.length
  · have N := E59.long fl b cp long K (by omega) 0
    rw [if_pos long]
    simp [N, av1, zv]
  rw [if_neg long]
  have N := E60.next fl b cp hn hb (by omega) K (by omega) 0
  cases hr : rd (b.length + 2) b 0 b.length 1 0 with
  | bad x y =>
    have y0 := (bad_ne _).1 _ _ _ _ _ _ _ hr
    rw [hr] at N
    simp only [E60.res1] at N
    simp [N, av1, zv, y0]
  | ok c n m =>
    rw [hr] at N
    simp only [E60.res1] at N
    rw [El.av_eq] at N
    simp only
    by_cases q : n < b.length
    · have q' : (n : Int) < b.length := by omega
      rw [if_pos q]
      simp [N, av1, zv, q, q']
    · have q' : ¬ (n : Int) < b.length := by omega
      rw [if_neg q, av1, El.av_eq]
      simp [N, q, q']
theorem zv_av : E18.z.av = zv := rfl
theorem got_bad (fl : Bool) (b : List Int) (cp : Option Nat) (hn : fl = true → b = []) (hb : isB b) {x y : Int} (h : rg b = .bad x y) : ∃ N, Con E N 20 [.sl fl (bs b) cp, zv, .int .i64 x, .int .i64 y] (.bool true) := by
  obtain ⟨N1, C1⟩ := E13.many_con E18.z E18.z_ok
  obtain ⟨N2, C2⟩ := E1.same E18.z E18.z E18.z_ok rfl
  obtain ⟨N3, C3⟩ := E13.exact_con E18.z E18.z_ok (.mk _ rfl rfl fun x hx => by cases hx)
  obtain ⟨K, hK⟩ : ∃ K, b.length + 310 + N1 + N2 + N3 + 20 = K := ⟨_, rfl⟩
  have w1 := C1 9000 (by omega) K (by omega) 0
  have w2 := C2 K (by omega) 0
  have w3 := C3 K (by omega) 0
  have w4 := get fl b cp hn hb K (by omega) 0
  rw [h, av1] at w4
  have mz : many E18.z.core 9000 = 1 := by decide +kernel
  rw [mz] at w1
  rw [zv_av] at w1 w2 w3
  refine ⟨K + 1, con_of E_fn20 (by simp [AV.pureL, AV.pure]) (Nat.le_of_ble_eq_true rfl) rfl rfl (g := []) ?_⟩
  rw [body_20, c20]
  simp [w1, w2, w3, w4, zv]
theorem got_ok (fl : Bool) (b : List Int) (cp : Option Nat) (hn : fl = true → b = []) (hb : isB b) {c n m} (h : rg b = .ok c n m) (e : El) (he : e.core = c) : ∃ N, Con E N 20 [.sl fl (bs b) cp, e.av, .int .i64 0, .int .i64 0] (.bool true) := by
  obtain ⟨r1, r2, r3, r4, r5, r6⟩ := rg_ok hb h
  have d1 : (dec1 c).ok := (ok_of (dec1 c) (by rw [dec1_core]; exact r3) (by rw [dec1_core]; exact r4) (by rw [dec1_core, r2]; omega)).1
  obtain ⟨N1, C1⟩ := E13.many_con (dec1 c) d1
  obtain ⟨N2, C2⟩ := E1.same (dec1 c) e d1 (by rw [dec1_core, he])
  obtain ⟨N3, C3⟩ := E13.exact_con (dec1 c) d1 (dec1_ex c)
  obtain ⟨K, hK⟩ : ∃ K, b.length + 310 + N1 + N2 + N3 + 20 = K := ⟨_, rfl⟩
  have w1 := C1 9000 (by omega) K (by omega) 0
  have w2 := C2 K (by omega) 0
  have w3 := C3 K (by omega) 0
  have w4 := get fl b cp hn hb K (by omega) 0
  rw [h, av1] at w4
  rw [dec1_core, E36.many_cnt _ _ (by omega) (by omega)] at w1
  have q1 : cnt c ≤ 9000 := by omega
  rw [El.av_eq (dec1 c)] at w1 w2 w3 w4
  rw [El.av_eq e] at w2 ⊢
  refine ⟨K + 1, con_of E_fn20 (by simp [AV.pureL, AV.pure]) (Nat.le_of_ble_eq_true rfl) rfl rfl (g := []) ?_⟩
  rw [body_20, c20]
  simp [w1, w2, w3, w4, q1]
end E61
end
section
open Ab Go TabE Sp E18 E20 E22 E23 E26
namespace E27
theorem lastS (q0 k1 : Nat) (f q) (l : List G) (key : Key) (st : List El) (hkey : ∃ m, key = (1, 49, m) ∨ key = (1, 92, m)) (i : Nat) (hi : i = min 39 l.length) :
    rndO fn22 b22 q0 k1 (S f (l.map G.av) q key st i) = some (.exit 0, ⟨[(1, .ptr (1, 1, 0) 0), (2, .ptr (1, 2, 0) 0), (3, .ref key 0 st.length none), (4, .int .i64 (i : Int)), (17, .bool false)], [((1, 1, 0), bx [.sl f (l.map G.av) q]), ((1, 2, 0), bx Z), (key, ⟨El.fl st, true, true, false, 5, true⟩)]⟩) := by
  by_cases h : i < l.length
  · have i39 : i = 39 := by omega
    subst i39
    have h' : (39 : Int) < l.length := by omega
    obtain ⟨m, rfl | rfl⟩ := hkey <;> simp [b22, lp, lps, c22, h, h', El.fl_keys]
  · obtain ⟨m, rfl | rfl⟩ := hkey <;> simp [b22, lp, lps, c22, h, El.fl_keys]
theorem last0 (q0 k1 : Nat) (f q) :
    rndO fn22 b22 q0 k1 (S0 f [] q 0) = some (.exit 0, ⟨[(1, .ptr (1, 1, 0) 0), (2, .ptr (1, 2, 0) 0), (3, .sl true [] (some 0)), (4, .int .i64 0), (17, .bool false)], [((1, 1, 0), bx [.sl f [] q]), ((1, 2, 0), bx Z)]⟩) := by
  simp [b22, lp, lps, c22]
theorem step (K : Nat) (f q) (l : List G) (hl : ∀ g ∈ l, g.ok) (ll : l.length ≤ 9223372036854775807) (i : Nat) (g : G) (hx : l[i]? = some g) (hi : i < 39) (key : Key) (hkey : ∃ m, key = (1, 49, m) ∨ key = (1, 92, m)) (hne : (sq l i).length ≠ 0)
    (T : ∀ k : Int, 0 ≤ k → k < 256 → ∀ h, aCall E K 0 71 [.agg [.int .u8 g.c, .int .u8 k, .int .u32 g.n]] h = some (.ret (.agg [.int .u8 (g.c % 4), .bool (decide (k % 2 = 1)), .int .u32 (tn g.c k g.n)]), h))
    (D : ∀ h, aCall E K 0 40 [(nd g ((sq l i).drop ((sq l i).length - kk g (sq l i).length))).av] h = some (.ret (.int .i64 (dep (nd g ((sq l i).drop ((sq l i).length - kk g (sq l i).length))).core)), h)) :
    ∃ key', (∃ m, key' = (1, 49, m) ∨ key' = (1, 92, m)) ∧ rndO fn22 b22 K K (S f (l.map G.av) q key (sq l i) i) = some (.normal, S f (l.map G.av) q key' (sq l (i + 1)) (i + 1)) := by
  have og := hl g (List.mem_of_getElem? hx)
  have iv := inv l hl i (by omega)
  have ln := cnts_len (sq l i)
  have e : sq l (i + 1) = E26.nx (sq l i) g := by rw [sq, hx]
  rw [e]
  generalize sq l i = st at *
  by_cases ha : g.a % 3 = 0
  · have t := T 0 (by omega) (by omega)
    have e2 : E26.nx st g = st ++ [leaf g] := by unfold E26.nx; rw [if_pos ha]
    rw [e2]
    exact ⟨_, ⟨_, .inl rfl⟩, leafR key st (by omega) hkey K K f q l i g og hx hi ha ll t⟩
  have t := T 1 (by omega) (by omega)
  have e2 : E26.nx st g = if dep (nd g (st.drop (st.length - kk g st.length))).core < 15 then st.take (st.length - kk g st.length) ++ [nd g (st.drop (st.length - kk g st.length))] else st := by unfold E26.nx; rw [if_neg ha]
  rw [e2]
  have kl := kk_le g st.length
  have hkp : st.length = kk g st.length + (st.length - kk g st.length) := by omega
  by_cases h2 : g.a % 3 = 2
  · exact nodeA key st (by omega) hne hkey _ _ hkp (by unfold kk; rw [if_pos h2]) K K f q l i g og hx hi ha ll h2 _ t D
  have h3 : g.a % 3 ≠ 2 ∧ (if (st.length : Int) < g.b % 5 then (st.length : Int) else g.b % 5) = (kk g st.length : Int) := by
    refine ⟨h2, ?_⟩
    unfold kk
    rw [if_neg h2]
    split <;> omega
  by_cases k0 : kk g st.length = 0
  · exact E24.nodeC key st (by omega) hne hkey _ _ hkp k0 K K f q l i g og hx hi ha ll h3 _ t D
  by_cases k1 : kk g st.length = st.length
  · exact E24.nodeB key st (by omega) hne hkey _ _ hkp k1 K K f q l i g og hx hi ha ll h3 _ t D
  · exact E25.nodeD key st (by omega) hne hkey _ _ hkp ⟨by omega, by omega⟩ K K f q l i g og hx hi ha ll h3 _ t D
theorem first (K : Nat) (f q) (l : List G) (hl : ∀ g ∈ l, g.ok) (ll : l.length ≤ 9223372036854775807) (g : G) (hx : l[0]? = some g)
    (T : ∀ k : Int, 0 ≤ k → k < 256 → ∀ h, aCall E K 0 71 [.agg [.int .u8 g.c, .int .u8 k, .int .u32 g.n]] h = some (.ret (.agg [.int .u8 (g.c % 4), .bool (decide (k % 2 = 1)), .int .u32 (tn g.c k g.n)]), h))
    (D : ∀ h, aCall E K 0 40 [(nd g []).av] h = some (.ret (.int .i64 (dep (nd g []).core)), h)) :
    ∃ key', (∃ m, key' = (1, 49, m) ∨ key' = (1, 92, m)) ∧ rndO fn22 b22 K K (S0 f (l.map G.av) q 0) = some (.normal, S f (l.map G.av) q key' (sq l 1) 1) := by
  have og := hl g (List.mem_of_getElem? hx)
  have e : sq l 1 = E26.nx [] g := by rw [sq, hx]; rfl
  have d1 : dep (nd g []).core = 1 := rfl
  rw [d1] at D
  rw [e]
  by_cases ha : g.a % 3 = 0
  · have t := T 0 (by omega) (by omega)
    have e2 : E26.nx [] g = [leaf g] := by unfold E26.nx; rw [if_pos ha]; rfl
    rw [e2]
    exact ⟨_, ⟨_, .inl rfl⟩, leaf0 K K f q l 0 g og hx (by omega) ha ll t⟩
  have t := T 1 (by omega) (by omega)
  have e2 : E26.nx [] g = [nd g []] := by unfold E26.nx; rw [if_neg ha]; simp [d1]
  rw [e2]
  exact ⟨_, ⟨_, .inr rfl⟩, node0 K K f q l 0 g og hx (by omega) ha ll t D⟩
abbrev Fin (f : Bool) (q : Option Nat) (l : List G) (key : Key) (st : List El) : Option (AExit × St) := some (.exit 0, ⟨[(1, .ptr (1, 1, 0) 0), (2, .ptr (1, 2, 0) 0), (3, .ref key 0 st.length none), (4, .int .i64 ((min 39 l.length : Nat) : Int)), (17, .bool false)], [((1, 1, 0), bx [.sl f (l.map G.av) q]), ((1, 2, 0), bx Z), (key, ⟨El.fl st, true, true, false, 5, true⟩)]⟩)
theorem loop (K : Nat) (f q) (l : List G) (hl : ∀ g ∈ l, g.ok) (ll : l.length ≤ 9223372036854775807)
    (T : ∀ g ∈ l, ∀ k : Int, 0 ≤ k → k < 256 → ∀ h, aCall E K 0 71 [.agg [.int .u8 g.c, .int .u8 k, .int .u32 g.n]] h = some (.ret (.agg [.int .u8 (g.c % 4), .bool (decide (k % 2 = 1)), .int .u32 (tn g.c k g.n)]), h))
    (D : ∀ i g, i < 39 → l[i]? = some g → ∀ h, aCall E K 0 40 [(nd g ((sq l i).drop ((sq l i).length - kk g (sq l i).length))).av] h = some (.ret (.int .i64 (dep (nd g ((sq l i).drop ((sq l i).length - kk g (sq l i).length))).core)), h)) :
    ∀ (n i : Nat) (key : Key) (k : Nat), (∃ m, key = (1, 49, m) ∨ key = (1, 92, m)) → i + n = min 39 l.length → 0 < i → n < k →
      ∃ key', (∃ m, key' = (1, 49, m) ∨ key' = (1, 92, m)) ∧ aLoop (aCode E (site fn22 (aRun E K)) (dcall (aRun E K)) K 1 fn22 b22) (cleanS 1 ((firstReg b22).bind fn22.head)) k (S f (l.map G.av) q key (sq l i) i) = Fin f q l key' (sq l (min 39 l.length))
  | 0, i, key, k, hkey, hi, i0, hk => by
    obtain ⟨k, rfl⟩ : ∃ j, k = j + 1 := ⟨k - 1, by omega⟩
    obtain rfl : i = min 39 l.length := by omega
    exact ⟨key, hkey, aLoop_end (lastS K K f q l key _ hkey _ rfl) (by simp)⟩
  | n + 1, i, key, k, hkey, hi, i0, hk => by
    obtain ⟨k, rfl⟩ : ∃ j, k = j + 1 := ⟨k - 1, by omega⟩
    have hx : l[i]? = some (l[i]'(by omega)) := List.getElem?_eq_getElem _
    have hne : (sq l i).length ≠ 0 := by
      obtain ⟨j, rfl⟩ : ∃ j, i = j + 1 := ⟨i - 1, by omega⟩
      exact sq_ne l j (by omega)
    obtain ⟨key1, hk1, h1⟩ := step K f q l hl ll i _ hx (by omega) key hkey hne (T _ (List.mem_of_getElem? hx)) (D i _ (by omega) hx)
    obtain ⟨key2, hk2, h2⟩ := loop K f q l hl ll T D n (i + 1) key1 k hk1 (by omega) (by omega) (by omega)
    exact ⟨key2, hk2, by rw [aLoop_succ h1, h2]⟩
end E27
end
section
open Ab Go TabE Sp E18 E20 E22 E23 E26
namespace E28
theorem sealX_fl (n : Nat) (h : Heap) (key : Key) (st : List El) (hk : lookK h key = some ⟨El.fl st, true, true, false, 5, true⟩) : sealX (n + 2) h (.ref key 0 st.length none) = some (.sl false (El.avs st) none, setK h key ⟨El.fl st, true, false, false, 5, true⟩) := by
  unfold sealX sealA
  have hp : (AV.ref key 0 st.length none).pure = false := rfl
  have f3 : (El.fl st).take (st.length * 5) = El.fl st := by rw [El.fl_take, List.take_length]
  simp only [hp, Bool.false_eq_true, if_false, hk]
  rw [if_pos ⟨trivial, by rw [El.fl_len]; omega, by simp⟩]
  simp only [List.drop_zero, f3]
  rw [sealL_of_pure n _ _ (El.fl_pure st)]
  simp only [El.fl_chunk]
theorem of (f : Bool) (q : Option Nat) (l : List G) (hl : ∀ g ∈ l, g.ok) (ll : l.length ≤ 9223372036854775807) : ∃ N, Con E N 22 [.agg [.sl f (l.map G.av) q]] (ofE l).av := by
  obtain ⟨N, hN⟩ := unif (P := fun (i n : Nat) => ∀ g, l[i]? = some g → Con E n 40 [(nd g ((sq l i).drop ((sq l i).length - kk g (sq l i).length))).av] (.int .i64 (dep (nd g ((sq l i).drop ((sq l i).length - kk g (sq l i).length))).core))) (fun i n m h hm g hg => (h g hg).mono hm) (List.range 39) (fun i hi => by
    have hi' : i < 39 := List.mem_range.1 hi
    cases hg : l[i]? with
    | none => exact ⟨0, fun g h => by cases h⟩
    | some g =>
      have iv := inv l hl i (by omega)
      have ln := cnts_len (sq l i)
      have w := nd_W g (hl g (List.mem_of_getElem? hg)) ((sq l i).drop ((sq l i).length - kk g (sq l i).length)) (fun x hx => iv.2 x (List.mem_of_mem_drop hx)) (by rw [List.length_drop]; omega)
      obtain ⟨n, hn⟩ := E12.depth _ w.1 (by omega)
      exact ⟨n, fun g' h => by cases h; exact hn⟩)
  obtain ⟨K, hK⟩ : ∃ K, N + 100 = K := ⟨_, rfl⟩
  have T : ∀ g ∈ l, ∀ k : Int, 0 ≤ k → k < 256 → ∀ h, aCall E K 0 71 [.agg [.int .u8 g.c, .int .u8 k, .int .u32 g.n]] h = some (.ret (.agg [.int .u8 (g.c % 4), .bool (decide (k % 2 = 1)), .int .u32 (tn g.c k g.n)]), h) := fun g hg k k0 k1 h =>
    E20.of g.c k g.n (hl g hg).2.2.1 ⟨k0, k1⟩ (hl g hg).2.2.2.2.1 K (by omega) 0 h
  have D := fun i g (hi : i < 39) (hx : l[i]? = some g) h => hN i (List.mem_range.2 hi) g hx K (by omega) 0 h
  refine ⟨K + 1, con_ofO E_fn22 (by simp [AV.pureL, AV.pure]) (Nat.le_of_ble_eq_true rfl) rfl (g := []) ?_⟩
  rw [body_22, c22]
  cases hc : l with
  | nil =>
    obtain ⟨k, hk⟩ : ∃ k, K = k + 1 := ⟨K - 1, by omega⟩
    have L : aLoop (aCode E (site fn22 (aRun E K)) (dcall (aRun E K)) K 1 fn22 b22) (cleanS 1 ((firstReg b22).bind fn22.head)) K (S0 f [] q 0) = some (.exit 0, ⟨[(1, .ptr (1, 1, 0) 0), (2, .ptr (1, 2, 0) 0), (3, .sl true [] (some 0)), (4, .int .i64 0), (17, .bool false)], [((1, 1, 0), bx [.sl f [] q]), ((1, 2, 0), bx Z)]⟩) := by
      rw [hk]; exact aLoop_end (E27.last0 (k + 1) (k + 1) f q) (by simp)
    simp [b22, lp, lps, c22, firstReg, bx, Z, S0] at L
    have t : ofE [] = .mk 0 true 16 true [] (some 0) true [] (some 0) := rfl
    rw [t]
    simp [-s_round, L, El.av, El.avs]
  | cons g r =>
    rw [← hc]
    have hx : l[0]? = some g := by rw [hc]; rfl
    have l0 : 0 < l.length := by rw [hc]; simp
    obtain ⟨key1, hk1, h1⟩ := E27.first K f q l hl ll g hx (T g (by rw [hc]; simp)) (by simpa [sq] using D 0 g (by omega) hx)
    obtain ⟨k, hk⟩ : ∃ k, K = k + 1 := ⟨K - 1, by omega⟩
    obtain ⟨key, hkey, h2⟩ := E27.loop K f q l hl ll T D (min 39 l.length - 1) 1 key1 k hk1 (by omega) (by omega) (by omega)
    have L : aLoop (aCode E (site fn22 (aRun E K)) (dcall (aRun E K)) K 1 fn22 b22) (cleanS 1 ((firstReg b22).bind fn22.head)) K (S0 f (l.map G.av) q 0) = E27.Fin f q l key (sq l (min 39 l.length)) := by
      have hk' : aLoop (aCode E (site fn22 (aRun E K)) (dcall (aRun E K)) K 1 fn22 b22) (cleanS 1 ((firstReg b22).bind fn22.head)) (k + 1) (S0 f (l.map G.av) q 0) = E27.Fin f q l key (sq l (min 39 l.length)) := by rw [aLoop_succ h1]; exact h2
      rwa [← hk] at hk'
    have hne : (sq l (min 39 l.length)).length ≠ 0 := by
      obtain ⟨j, hj⟩ : ∃ j, min 39 l.length = j + 1 := ⟨min 39 l.length - 1, by omega⟩
      rw [hj]; exact sq_ne l j (by omega)
    have iv := inv l hl (min 39 l.length) (by omega)
    have ln := cnts_len (sq l (min 39 l.length))
    unfold ofE
    unfold E27.Fin at L
    generalize sq l (min 39 l.length) = st at L hne iv ln ⊢
    simp [b22, lp, lps, c22, firstReg, bx, Z, S0] at L
    have l1 := El.fl_len st
    have l2 := El.fl_keys st
    have l3 := El.fl_pure st
    by_cases one : st.length = 1
    · obtain ⟨x, rfl⟩ : ∃ x, st = [x] := List.length_eq_one_iff.1 one
      have t : top [x] = x := rfl
      rw [t, El.av_eq]
      rw [El.fl_one] at L
      simp only [List.length_singleton] at L
      obtain ⟨m, rfl | rfl⟩ := hkey <;> simp [-s_round, L]
    · have t : top st = .mk 0 true 16 true [] (some 0) false st none := by
        match st, hne, one with
        | x :: y :: r, _, _ => simp [top]
      have one' : ¬ ((st.length : Int) = 1) := by omega
      rw [t, El.av]
      obtain ⟨m, rfl | rfl⟩ := hkey <;> simp [-s_round, L, one, one', l1, l2, l3, sealX_fl]
end E28
end
end
