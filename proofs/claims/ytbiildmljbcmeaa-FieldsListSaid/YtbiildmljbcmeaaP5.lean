/- Own work, no conditions. -/
import Derived.Test.YtbiildmljbcmeaaTabE
import Derived.Test.YtbiildmljbcmeaaB40
import Derived.Test.YtbiildmljbcmeaaB18
import Derived.KernelRfl
section
/- Elements as trees, for the evaluator. No conditions. -/
open Ab Go TabE
set_option linter.unusedSimpArgs false
set_option linter.unusedVariables false
set_option maxRecDepth 20000
namespace Ab
inductive El where
  | mk (c : Int) (k : Bool) (n : Int) (fb : Bool) (b : List Int) (cb : Option Nat) (fs : Bool) (s : List El) (cs : Option Nat)
namespace El
def c : El → Int | mk c _ _ _ _ _ _ _ _ => c
def k : El → Bool | mk _ k _ _ _ _ _ _ _ => k
def n : El → Int | mk _ _ n _ _ _ _ _ _ => n
def fb : El → Bool | mk _ _ _ fb _ _ _ _ _ => fb
def b : El → List Int | mk _ _ _ _ b _ _ _ _ => b
def cb : El → Option Nat | mk _ _ _ _ _ cb _ _ _ => cb
def fs : El → Bool | mk _ _ _ _ _ _ fs _ _ => fs
def s : El → List El | mk _ _ _ _ _ _ _ s _ => s
def cs : El → Option Nat | mk _ _ _ _ _ _ _ _ cs => cs
mutual
def av : El → AV
  | mk c k n fb b cb fs s cs => .agg [.int .u8 c, .bool k, .int .u32 n, .sl fb (bs b) cb, .sl fs (avs s) cs]
def avs : List El → List AV
  | [] => []
  | e :: r => av e :: avs r
end
theorem avs_map : ∀ l, avs l = l.map av
  | [] => rfl
  | e :: r => by rw [avs, avs_map r]; rfl
theorem av_eq (e : El) : e.av = .agg [.int .u8 e.c, .bool e.k, .int .u32 e.n, .sl e.fb (bs e.b) e.cb, .sl e.fs (avs e.s) e.cs] := by cases e; rfl
theorem av_pure (e : El) : e.av.pure = true := by rw [av_eq]; rfl
theorem avs_len (l) : (avs l).length = l.length := by rw [avs_map, List.length_map]
theorem avs_get (l : List El) (i : Nat) : (avs l)[i]? = (l[i]?).map av := by rw [avs_map, List.getElem?_map]
theorem sz_lt {e x : El} (h : x ∈ e.s) : sizeOf x < sizeOf e := by
  cases e
  have := List.sizeOf_lt_of_mem h
  simp only [s] at *
  simp only [mk.sizeOf_spec]
  omega
theorem ind {P : El → Prop} (h : ∀ e, (∀ x ∈ e.s, P x) → P e) : ∀ e, P e := by
  intro e
  generalize hn : sizeOf e = m
  induction m using Nat.strongRecOn generalizing e with
  | ind m ih => exact h e fun x hx => ih (sizeOf x) (by rw [← hn]; exact sz_lt hx) x rfl
end El
inductive Cr where
  | mk (c : Int) (k : Bool) (n : Int) (b : List Int) (s : List Cr)
namespace El
mutual
def core : El → Cr
  | mk c k n _ b _ _ s _ => .mk c k n b (cores s)
def cores : List El → List Cr
  | [] => []
  | e :: r => core e :: cores r
end
theorem cores_map : ∀ l, cores l = l.map core
  | [] => rfl
  | e :: r => by rw [cores, cores_map r]; rfl
theorem core_eq (e : El) : e.core = .mk e.c e.k e.n e.b (cores e.s) := by cases e; rfl
theorem core_inj {a b : El} : a.core = b.core ↔ a.c = b.c ∧ a.k = b.k ∧ a.n = b.n ∧ a.b = b.b ∧ cores a.s = cores b.s := by
  rw [core_eq, core_eq]; simp
theorem cores_len {a b : List El} (h : cores a = cores b) : a.length = b.length := by
  have := congrArg List.length h
  simpa [cores_map] using this
theorem cores_get {a b : List El} (h : cores a = cores b) {i : Nat} {x y : El} (hx : a[i]? = some x) (hy : b[i]? = some y) : x.core = y.core := by
  have := congrArg (fun l => l[i]?) h
  simp [cores_map, hx, hy] at this
  exact this
mutual
def ok : El → Prop
  | mk c _ n _ b _ _ s _ => (0 ≤ c ∧ c < 256) ∧ (0 ≤ n ∧ n < 4294967296) ∧ isB b ∧ b.length ≤ 9223372036854775807 ∧ s.length ≤ 9223372036854775807 ∧ oks s
def oks : List El → Prop
  | [] => True
  | e :: r => ok e ∧ oks r
end
theorem oks_all : ∀ {l}, oks l ↔ ∀ x ∈ l, ok x
  | [] => by simp [oks]
  | e :: r => by rw [oks, oks_all (l := r)]; simp
theorem ok_eq (e : El) : e.ok ↔ (0 ≤ e.c ∧ e.c < 256) ∧ (0 ≤ e.n ∧ e.n < 4294967296) ∧ isB e.b ∧ e.b.length ≤ 9223372036854775807 ∧ e.s.length ≤ 9223372036854775807 ∧ ∀ x ∈ e.s, x.ok := by
  cases e; rw [ok, oks_all]; rfl
theorem ok.cb {e : El} (h : e.ok) : 0 ≤ e.c ∧ e.c < 256 := ((ok_eq e).1 h).1
theorem ok.nb {e : El} (h : e.ok) : 0 ≤ e.n ∧ e.n < 4294967296 := ((ok_eq e).1 h).2.1
theorem ok.bb {e : El} (h : e.ok) : isB e.b := ((ok_eq e).1 h).2.2.1
theorem ok.sl {e : El} (h : e.ok) : e.s.length ≤ 9223372036854775807 := ((ok_eq e).1 h).2.2.2.2.1
theorem ok.sub {e : El} (h : e.ok) : ∀ x ∈ e.s, x.ok := ((ok_eq e).1 h).2.2.2.2.2
theorem av_cells (e : El) : e.av.cells = [.int .u8 e.c, .bool e.k, .int .u32 e.n, .sl e.fb (bs e.b) e.cb, .sl e.fs (avs e.s) e.cs] := by rw [av_eq]; rfl
theorem at_ (f c) (l : List El) (i : Nat) (x : El) (h : l[i]? = some x) : ∀ hp, indexAddrA E 28 (.sl f (avs l) c) (.int .i64 i) hp = some (.pel [.int .u8 x.c, .bool x.k, .int .u32 x.n, .sl x.fb (bs x.b) x.cb, .sl x.fs (avs x.s) x.cs]) := by
  intro hp
  have hi : i < l.length := (List.getElem?_eq_some_iff.1 h).1
  unfold indexAddrA
  simp only [E_ty28, E_ty30]
  rw [if_pos ⟨by omega, by rw [avs_len]; omega⟩]
  simp only [Int.toNat_natCast, avs_get, h, Option.map_some]
  rw [av_cells]
  rfl
end El
theorem unif {α : Type} {P : α → Nat → Prop} (mono : ∀ x n m, P x n → n ≤ m → P x m) : ∀ (l : List α), (∀ x ∈ l, ∃ n, P x n) → ∃ n, ∀ x ∈ l, P x n
  | [], _ => ⟨0, fun x h => by cases h⟩
  | a :: l, h => by
    obtain ⟨n, hn⟩ := unif mono l fun x hx => h x (List.mem_cons_of_mem _ hx)
    obtain ⟨m, hm⟩ := h a (List.mem_cons_self ..)
    refine ⟨max n m, fun x hx => ?_⟩
    rcases List.mem_cons.1 hx with rfl | hx
    · exact mono _ _ _ hm (by omega)
    · exact mono _ _ _ (hn x hx) (by omega)
theorem w64' (n : Int) (h0 : -9223372036854775808 ≤ n) (h1 : n < 9223372036854775808) : IntKind.i64.wrap n = n := w_i64 n h0 h1
theorem loopR {f : St → Option (AExit × St)} {cl : St → St} {k : Nat} {s0 : St} {r : AExit × St} (S : Nat → St) (N : Nat) (h0 : s0 = S 0) (step : ∀ i, i < N → f (cl (S i)) = some (.normal, S (i + 1))) (last : f (cl (S N)) = some r) (hr : r.1 ≠ .normal) (hk : N < k) : aLoop f cl k s0 = some r := by
  subst h0
  have gen : ∀ m i k, i + m = N → m < k → aLoop f cl k (S i) = some r := by
    intro m
    induction m with
    | zero =>
      intro i k hi hk
      obtain rfl : i = N := by omega
      obtain ⟨k, rfl⟩ : ∃ j, k = j + 1 := ⟨k - 1, by omega⟩
      simp only [aLoop, last]
      obtain ⟨e, s⟩ := r
      cases e <;> first | rfl | exact absurd rfl hr
    | succ m ih =>
      intro i k hi hk
      obtain ⟨k, rfl⟩ : ∃ j, k = j + 1 := ⟨k - 1, by omega⟩
      simp only [aLoop, step i (by omega)]
      exact ih (i + 1) k (by omega) (by omega)
  exact gen N 0 k (by omega) hk
def lps : Code → List Code
  | .seq a b => lps a ++ lps b
  | .block _ b => lps b
  | .cond _ a b => lps a ++ lps b
  | .loop b => [b]
  | _ => []
def lp (c : Code) (i : Nat) : Code := ((lps c)[i]?).getD .skip
abbrev rnd (fn : AFn) (b : Code) (q k1 : Nat) (s : St) : Option (AExit × St) := aCode E (aCall E q) (dcall (aRun E q)) k1 1 fn b (cleanS 1 ((firstReg b).bind fn.head) s)
theorem loopQ {fn : AFn} {b : Code} {K k : Nat} {s0 : St} {r : AExit × St} (S : Nat → St) (N : Nat) (h0 : s0 = S 0) (step : ∀ i, i < N → rnd fn b K K (S i) = some (.normal, S (i + 1))) (last : rnd fn b K K (S N) = some r) (hr : r.1 ≠ .normal) (hk : N < k) :
    aLoop (aCode E (aCall E K) (dcall (aRun E K)) K 1 fn b) (cleanS 1 ((firstReg b).bind fn.head)) k s0 = some r := loopR S N h0 step last hr hk
abbrev rndO (fn : AFn) (b : Code) (q k1 : Nat) (s : St) : Option (AExit × St) := aCode E (site fn (aRun E q)) (dcall (aRun E q)) k1 1 fn b (cleanS 1 ((firstReg b).bind fn.head) s)
theorem con_of {f : FuncId} {fn : AFn} {args : List AV} {v : AV} {K : Nat} {g : Heap} (h2 : E.fn f = some fn) (h3 : AV.pureL args = true) (h4 : args.length ≤ fn.ntmps) (h5 : E.grd f = none) (h6 : fn.opn = fun _ => none)
    (h : sealR [] (finA E fn (aCode E (aCall E K) (dcall (aRun E K)) K 1 fn fn.body ⟨frame0 args 0, []⟩)) = some (.ret v, g)) (h1 : E.prim f = none := by rfl) : Con E (K + 1) f args v := by
  refine .of (g := g) h3 ?_
  rw [aCall_fn h1 h2 h3 h4 h5 h6]
  exact h
theorem con_ofO {f : FuncId} {fn : AFn} {args : List AV} {v : AV} {K : Nat} {g : Heap} (h2 : E.fn f = some fn) (h3 : AV.pureL args = true) (h4 : args.length ≤ fn.ntmps) (h5 : E.grd f = none)
    (h : sealR [] (finA E fn (aCode E (site fn (aRun E K)) (dcall (aRun E K)) K 1 fn fn.body ⟨frame0 args 0, []⟩)) = some (.ret v, g)) (h1 : E.prim f = none := by rfl) : Con E (K + 1) f args v := by
  refine .of (g := g) h3 ?_
  rw [aCall_fnO h1 h2 h3 h4 h5]
  exact h
abbrev bx (cs : List AV) : AObj := ⟨cs, true, true, true, 1, false⟩
abbrev ec (a : El) : List AV := [.int .u8 a.c, .bool a.k, .int .u32 a.n, .sl a.fb (bs a.b) a.cb, .sl a.fs (El.avs a.s) a.cs]
theorem aLoop_succ {f : St → Option (AExit × St)} {cl : St → St} {k : Nat} {s s' : St} (h : f (cl s) = some (.normal, s')) : aLoop f cl (k + 1) s = aLoop f cl k s' := by simp only [aLoop, h]
theorem aLoop_end {f : St → Option (AExit × St)} {cl : St → St} {k : Nat} {s : St} {r : AExit × St} (h : f (cl s) = some r) (he : r.1 ≠ .normal) : aLoop f cl (k + 1) s = some r := by
  obtain ⟨e, s'⟩ := r
  simp only [aLoop, h]
  cases e <;> first | rfl | exact absurd rfl he
end Ab

end
section
/- What the functions of elements come to, in plain Lean. No conditions. -/
open Ab Go TabE
set_option linter.unusedVariables false
set_option linter.unusedSimpArgs false
namespace Sp
mutual
def chk : Cr → Int → Int → Int → Int × Int × Int
  | .mk c k n b s, d, m, l =>
    if tagE c k n ≠ 0 then (tagE c k n, m, l)
    else if (k = true ∧ b ≠ []) ∨ (k = false ∧ s ≠ []) then (1, m, l)
    else if 16 < d then (12, m, l)
    else if m = 8192 then (3, m, l)
    else chks s (d + 1) (m + 1) (max l d)
def chks : List Cr → Int → Int → Int → Int × Int × Int
  | [], _, m, l => (0, m, l)
  | x :: r, d, m, l => if (chk x d m l).1 ≠ 0 then chk x d m l else chks r d (chk x d m l).2.1 (chk x d m l).2.2
end
theorem chk_eq (e : El) (d m l : Int) : chk e.core d m l = if tagE e.c e.k e.n ≠ 0 then (tagE e.c e.k e.n, m, l)
    else if (e.k = true ∧ e.b ≠ []) ∨ (e.k = false ∧ e.s ≠ []) then (1, m, l)
    else if 16 < d then (12, m, l)
    else if m = 8192 then (3, m, l)
    else chks (El.cores e.s) (d + 1) (m + 1) (max l d) := by
  rw [El.core_eq, chk]
  have : El.cores e.s ≠ [] ↔ e.s ≠ [] := by rw [El.cores_map]; cases e.s <;> simp
  simp only [this]
end Sp

end
section
/- elements.measure at the evaluator. No conditions. -/
open Ab Go TabE Sp
set_option maxRecDepth 20000
set_option linter.unusedSimpArgs false
set_option linter.unusedVariables false
set_option maxHeartbeats 8000000
namespace E2
attribute [local simp ↓] s_seq s_reg s_regd s_cond s_block s_cons s_consG
attribute [local simp] s_nil s_loop s_round s_lpn s_lpe s_lpr firstReg s_gt s_gf s_wb s_wu s_val s_valN s_skip s_calls s_callP s_cax lookR flatR pureKs s_ret s_rgx s_sqn s_sqr s_sqe s_cdb s_bkn s_bkr s_bke s_exit s_ret' s_skip' s_finr s_finn s_fin1 s_fix s_clean s_gc0 o_tmp o_int o_bool o_nil o_str o_fn o_nil' l_hit l_miss l_nil ol_nil ol_cons ol_some x_move x_assign x_pick pk_t pk_f x_bin bn_s x_un x_extract x_callF cl_no x_callB x_callBF frzV x_conv cvx convA frame0 binA intOp resL resA results1 sealLW AV.pure AV.pureL keepT x_alloc x_box bxx x_build bdx x_buildSlice bsx x_buildSliceF bsf x_load ldx x_store stx x_slice slx x_fieldAddr x_field x_index ixx x_indexAddr iax x_makeSlice msx x_makeSliceF msf x_nilCheck newK genOf setK lookK fillA writeL writeC readC conts TyI.mk1 sliceA boundsA boundsB fitsA numA indexAddrA fieldAddrA partA fieldA indexA appendA copyA builtinA AV.cells chunk gcH reach keysT keepK inKs AV.keys AV.keysL Ty.isAgg eq1 eqL convA.go ltI w_u8 w_u32 w_u64 w_i64 w_fdiv w_tdiv w_tmod IntKind.bits unA sc_int sc_bool sc_str sc_sl sc_ref sc_ptr sc_pel sc_nilp sc_fn sc_nilf sc_if sc_nili sc_agg sc_tup sc_mem bs_pure bs_kl bs_length bs_cells bs_all sl_row sealRow sealY sl_int sl_bool sl_str sl_sl sl_nilp sl_nilf sl_nili sl_pel sl_agg sl_tup sl_fn sl_if nat_1 bs_cons bs_nil i_beq i_bne x_mkF x_mkI x_tassert x_panic s_pan s_sqp s_bkp s_finp s_fixp s_lpp s_rgp s_retp s_site s_stxN s_stxO x_callT clx
theorem ref_ok (c : Int) (k : Bool) (n : Int) : Con E 10 80 [.agg [.int .u8 c, .bool k, .int .u32 n]] (.int .i64 (tagE c k n)) := by
  refine con_of E_fn80 rfl (Nat.le_of_ble_eq_true rfl) rfl rfl (g := []) ?_
  rw [body_80, c80]
  unfold tagE
  by_cases h1 : 3 < c
  · simp [h1]
  by_cases h2 : 268435455 < n
  · simp [h1, h2]
  by_cases h3 : c = 0
  · subst h3
    by_cases h4 : n = 0
    · subst h4; simp []
    by_cases h5 : n = 16
    · subst h5; cases k <;> simp []
    by_cases h6 : n = 17
    · subst h6; cases k <;> simp []
    cases k <;> simp [h2, h4, h5, h6]
  · simp [h1, h2, h3]
end E2

end
section
/- Encodings, in plain Lean. No conditions. -/
open Ab Go TabE
set_option linter.unusedVariables false
set_option linter.unusedSimpArgs false
namespace Sp
def lenO (n : Int) : List Int := if n ≤ 127 then [n] else if n ≤ 255 then [129, n] else if n ≤ 65535 then [130, n / 256, n % 256] else [131, n / 65536, n / 256 % 256, n % 256]
mutual
def enc : Cr → List Int
  | .mk c k n b s => TG.tagO c k n ++ (lenO ((b ++ encs s).length : Int) ++ (b ++ encs s))
def encs : List Cr → List Int
  | [] => []
  | x :: r => enc x ++ encs r
end
mutual
def vld : Cr → Prop
  | .mk c k n b s => tagE c k n = 0 ∧ (k = true → b = []) ∧ (k = false → s = []) ∧ vlds s
def vlds : List Cr → Prop
  | [] => True
  | x :: r => vld x ∧ vlds r
end
theorem enc_eq (e : El) : enc e.core = TG.tagO e.c e.k e.n ++ (lenO ((e.b ++ encs (El.cores e.s)).length : Int) ++ (e.b ++ encs (El.cores e.s))) := by rw [El.core_eq, enc]
theorem vld_eq (e : El) : vld e.core ↔ tagE e.c e.k e.n = 0 ∧ (e.k = true → e.b = []) ∧ (e.k = false → e.s = []) ∧ vlds (El.cores e.s) := by
  rw [El.core_eq, vld]
  have : El.cores e.s = [] ↔ e.s = [] := by rw [El.cores_map]; cases e.s <;> simp
  rw [this]
theorem vlds_all : ∀ {l : List El}, vlds (El.cores l) ↔ ∀ x ∈ l, vld x.core
  | [] => by simp [El.cores, vlds]
  | e :: r => by rw [El.cores, vlds, vlds_all (l := r)]; simp
theorem tagO_len (c k n) : 1 ≤ (TG.tagO c k n).length ∧ (TG.tagO c k n).length ≤ 5 := by
  have g : (TG.grp n).length ≤ 4 := by unfold TG.grp; split <;> simp
  unfold TG.tagO
  by_cases h : n < 31
  · rw [if_pos h]; simp
  · rw [if_neg h]; simp [g]
theorem lenO_len (n) : 1 ≤ (lenO n).length ∧ (lenO n).length ≤ 4 := by unfold lenO; split <;> (try split) <;> (try split) <;> simp
end Sp
namespace Ab
namespace El
end El
end Ab

end
section
/- What the functions of lengths answer, at the evaluator. No conditions. -/
open Ab Go TabE
set_option maxRecDepth 20000
set_option linter.unusedSimpArgs false
set_option linter.unusedVariables false
set_option maxHeartbeats 2000000
namespace P1
attribute [local simp ↓] s_seq s_reg s_regd s_cond s_block s_cons s_consG
attribute [local simp] s_nil s_loop s_round s_lpn s_lpe s_lpr firstReg s_gt s_gf s_wb s_wu s_val s_valN s_skip s_calls s_callP s_cax lookR flatR pureKs s_ret s_rgx s_sqn s_sqr s_sqe s_cdb s_bkn s_bkr s_bke s_exit s_ret' s_skip' s_finr s_finn s_fin1 s_fix s_clean s_gc0 o_tmp o_int o_bool o_nil o_str o_fn o_nil' l_hit l_miss l_nil ol_nil ol_cons ol_some x_move x_assign x_pick pk_t pk_f x_bin bn_s x_un x_extract x_callF cl_no x_callB x_callBF frzV x_conv cvx convA frame0 binA intOp resL resA results1 sealA sealLW AV.pure AV.pureL keepT x_alloc x_box bxx x_build bdx x_buildSlice bsx x_buildSliceF bsf x_load ldx x_store stx x_slice slx x_fieldAddr x_field x_index ixx x_indexAddr iax x_makeSlice msx x_nilCheck newK genOf setK lookK fillA writeL writeC readC conts TyI.mk1 sliceA boundsA boundsB fitsA numA indexAddrA fieldAddrA partA fieldA indexA appendA copyA builtinA AV.cells AV.scal chunk gcH reach keysT keepK inKs AV.keys AV.keysL Ty.isAgg eq1 eqL convA.go ltI w_u8 w_u32 w_u64 w_i64 w_fdiv w_tdiv w_tmod IntKind.bits unA
theorem clip (f : Bool) (xs : List AV) (c : Option Nat) (hp : AV.pureL xs = true) : Con E 5 97 [.sl f xs c] (.sl f xs (some xs.length)) := by
  refine .of (g := []) (by simp [AV.pureL, AV.pure, hp]) ?_
  rw [aCall_fn rfl (E_fn97) (by simp [AV.pureL, AV.pure, hp]) (Nat.le_of_ble_eq_true rfl) rfl rfl, body_97, c97]
  simp [hp]
theorem put_neg (n : Int) (h : n < 0) : Con E 10 94 [.int .i64 n] (.tup [.sl true [] (some 0), .int .i64 1]) := by
  refine .of (g := []) rfl ?_
  rw [aCall_fn rfl (E_fn94) rfl (Nat.le_of_ble_eq_true rfl) rfl rfl, body_94, c94]
  have f0 : n < 0 := by omega
  simp [f0]

theorem put_big (n : Int) (h : 16777215 < n) : Con E 10 94 [.int .i64 n] (.tup [.sl true [] (some 0), .int .i64 3]) := by
  refine .of (g := []) rfl ?_
  rw [aCall_fn rfl (E_fn94) rfl (Nat.le_of_ble_eq_true rfl) rfl rfl, body_94, c94]
  have f0 : ¬ n < 0 := by omega
  have f1 : n > 16777215 := by omega
  simp [f0, f1]

theorem put_1 (n : Int) (h0 : 0 ≤ n) (h : n ≤ 127) : Con E 10 94 [.int .i64 n] (.tup [.sl false [.int .u8 n] (some 1), .int .i64 0]) := by
  refine .of (g := []) rfl ?_
  rw [aCall_fn rfl (E_fn94) rfl (Nat.le_of_ble_eq_true rfl) rfl rfl, body_94, c94]
  have f0 : ¬ n < 0 := by omega
  have f1 : ¬ n > 16777215 := by omega
  have f2 : n ≤ 127 := by omega
  simp [f0, f1, f2]
  omega

theorem put_2 (n : Int) (h0 : 128 ≤ n) (h : n ≤ 255) : Con E 10 94 [.int .i64 n] (.tup [.sl false [.int .u8 129, .int .u8 n] (some 2), .int .i64 0]) := by
  refine .of (g := []) rfl ?_
  rw [aCall_fn rfl (E_fn94) rfl (Nat.le_of_ble_eq_true rfl) rfl rfl, body_94, c94]
  have f0 : ¬ n < 0 := by omega
  have f1 : ¬ n > 16777215 := by omega
  have f2 : ¬ n ≤ 127 := by omega
  have f3 : ¬ n > 65535 := by omega
  have f4 : ¬ n > 255 := by omega
  simp [f0, f1, f2, f3, f4, clip]
  omega

theorem put_3 (n : Int) (h0 : 256 ≤ n) (h : n ≤ 65535) : Con E 10 94 [.int .i64 n] (.tup [.sl false [.int .u8 130, .int .u8 (n / 256), .int .u8 (n % 256)] (some 3), .int .i64 0]) := by
  refine .of (g := []) rfl ?_
  rw [aCall_fn rfl (E_fn94) rfl (Nat.le_of_ble_eq_true rfl) rfl rfl, body_94, c94]
  have f0 : ¬ n < 0 := by omega
  have f1 : ¬ n > 16777215 := by omega
  have f2 : ¬ n ≤ 127 := by omega
  have f3 : ¬ n > 65535 := by omega
  have f4 : n > 255 := by omega
  simp [f0, f1, f2, f3, f4, clip]
  omega

theorem put_4 (n : Int) (h0 : 65536 ≤ n) (h : n ≤ 16777215) : Con E 10 94 [.int .i64 n] (.tup [.sl false [.int .u8 131, .int .u8 (n / 65536), .int .u8 (n / 256 % 256), .int .u8 (n % 256)] (some 4), .int .i64 0]) := by
  refine .of (g := []) rfl ?_
  rw [aCall_fn rfl (E_fn94) rfl (Nat.le_of_ble_eq_true rfl) rfl rfl, body_94, c94]
  have f0 : ¬ n < 0 := by omega
  have f1 : ¬ n > 16777215 := by omega
  have f2 : ¬ n ≤ 127 := by omega
  have f3 : n > 65535 := by omega
  simp [f0, f1, f2, f3, clip]
  omega
end P1

end
section
/- What more of the functions answer, at the evaluator. No conditions. -/
open Ab Go TabE P1
set_option maxRecDepth 20000
set_option linter.unusedSimpArgs false
set_option linter.unusedVariables false
set_option maxHeartbeats 2000000
namespace P2
attribute [local simp ↓] s_seq s_reg s_regd s_cond s_block s_cons s_consG
attribute [local simp] s_nil s_loop s_round s_lpn s_lpe s_lpr firstReg s_gt s_gf s_wb s_wu s_val s_valN s_skip s_calls s_callP s_cax lookR flatR pureKs s_ret s_rgx s_sqn s_sqr s_sqe s_cdb s_bkn s_bkr s_bke s_exit s_ret' s_skip' s_finr s_finn s_fin1 s_fix s_clean s_gc0 o_tmp o_int o_bool o_nil o_str o_fn o_nil' l_hit l_miss l_nil ol_nil ol_cons ol_some x_move x_assign x_pick pk_t pk_f x_bin bn_s x_un x_extract x_callF cl_no x_callB x_callBF frzV x_conv cvx convA frame0 binA intOp resL resA results1 sealA sealLW AV.pure AV.pureL keepT x_alloc x_box bxx x_build bdx x_buildSlice bsx x_buildSliceF bsf x_load ldx x_store stx x_slice slx x_fieldAddr x_field x_index ixx x_indexAddr iax x_makeSlice msx x_nilCheck newK genOf setK lookK fillA writeL writeC readC conts TyI.mk1 sliceA boundsA boundsB fitsA numA indexAddrA fieldAddrA partA fieldA indexA appendA copyA builtinA AV.cells AV.scal chunk gcH reach keysT keepK inKs AV.keys AV.keysL Ty.isAgg eq1 eqL convA.go ltI w_u8 w_u32 w_u64 w_i64 w_fdiv w_tdiv w_tmod IntKind.bits unA
theorem size_1 (n : Int) (h0 : 0 ≤ n) (h1 : n ≤ 127) : Con E 20 110 [.int .i64 n] (.int .i64 1) := by
  refine .of (g := []) rfl ?_
  rw [aCall_fn rfl (E_fn110) rfl (Nat.le_of_ble_eq_true rfl) rfl rfl, body_110, c110]
  simp [put_1 n h0 h1]

theorem size_2 (n : Int) (h0 : 128 ≤ n) (h1 : n ≤ 255) : Con E 20 110 [.int .i64 n] (.int .i64 2) := by
  refine .of (g := []) rfl ?_
  rw [aCall_fn rfl (E_fn110) rfl (Nat.le_of_ble_eq_true rfl) rfl rfl, body_110, c110]
  simp [put_2 n h0 h1]

theorem size_3 (n : Int) (h0 : 256 ≤ n) (h1 : n ≤ 65535) : Con E 20 110 [.int .i64 n] (.int .i64 3) := by
  refine .of (g := []) rfl ?_
  rw [aCall_fn rfl (E_fn110) rfl (Nat.le_of_ble_eq_true rfl) rfl rfl, body_110, c110]
  simp [put_3 n h0 h1]

theorem size_4 (n : Int) (h0 : 65536 ≤ n) (h1 : n ≤ 16777215) : Con E 20 110 [.int .i64 n] (.int .i64 4) := by
  refine .of (g := []) rfl ?_
  rw [aCall_fn rfl (E_fn110) rfl (Nat.le_of_ble_eq_true rfl) rfl rfl, body_110, c110]
  simp [put_4 n h0 h1]

theorem size_neg (n : Int) (h : n < 0) : Con E 20 110 [.int .i64 n] (.int .i64 0) := by
  refine .of (g := []) rfl ?_
  rw [aCall_fn rfl (E_fn110) rfl (Nat.le_of_ble_eq_true rfl) rfl rfl, body_110, c110]
  simp [put_neg n h]

theorem size_big (n : Int) (h : 16777215 < n) : Con E 20 110 [.int .i64 n] (.int .i64 0) := by
  refine .of (g := []) rfl ?_
  rw [aCall_fn rfl (E_fn110) rfl (Nat.le_of_ble_eq_true rfl) rfl rfl, body_110, c110]
  simp [put_big n h]

theorem ref_1 (n : Int) (h0 : 0 ≤ n) (h1 : n ≤ 127) : Con E 20 77 [.int .i64 n] (.sl false [.int .u8 n] (some 1)) := by
  refine .of (g := []) rfl ?_
  rw [aCall_fn rfl (E_fn77) rfl (Nat.le_of_ble_eq_true rfl) rfl rfl, body_77, c77]
  have f0 : n < 128 := by omega
  simp [f0]
  omega

theorem ref_2 (n : Int) (h0 : 128 ≤ n) (h1 : n ≤ 255) : Con E 20 77 [.int .i64 n] (.sl false [.int .u8 129, .int .u8 n] none) := by
  refine .of (g := []) rfl ?_
  rw [aCall_fn rfl (E_fn77) rfl (Nat.le_of_ble_eq_true rfl) rfl rfl, body_77, c77]
  have f0 : ¬ n < 128 := by omega
  have f1 : 0 < n := by omega
  have f2 : 0 ≤ n := by omega
  have f3 : n / 256 = 0 := by omega
  simp [f0, f1, f2, f3]
  omega

theorem ref_3 (n : Int) (h0 : 256 ≤ n) (h1 : n ≤ 65535) : Con E 20 77 [.int .i64 n] (.sl false [.int .u8 130, .int .u8 (n / 256), .int .u8 (n % 256)] none) := by
  refine .of (g := []) rfl ?_
  rw [aCall_fn rfl (E_fn77) rfl (Nat.le_of_ble_eq_true rfl) rfl rfl, body_77, c77]
  have f0 : ¬ n < 128 := by omega
  have f1 : 0 < n := by omega
  have f2 : 0 ≤ n := by omega
  have f3 : 0 < n / 256 := by omega
  have f4 : 0 ≤ n / 256 := by omega
  have f5 : n / 256 / 256 = 0 := by omega
  have f6 : IntKind.i64.wrap (n / 256) = n / 256 := w_i64 _ (by omega) (by omega)
  simp [f0, f1, f2, f3, f4, f5, f6]
  omega

theorem ref_4 (n : Int) (h0 : 65536 ≤ n) (h1 : n ≤ 16777215) : Con E 20 77 [.int .i64 n] (.sl false [.int .u8 131, .int .u8 (n / 65536), .int .u8 (n / 256 % 256), .int .u8 (n % 256)] none) := by
  refine .of (g := []) rfl ?_
  rw [aCall_fn rfl (E_fn77) rfl (Nat.le_of_ble_eq_true rfl) rfl rfl, body_77, c77]
  have f0 : ¬ n < 128 := by omega
  have f1 : 0 < n := by omega
  have f2 : 0 ≤ n := by omega
  have f3 : 0 < n / 256 := by omega
  have f4 : 0 ≤ n / 256 := by omega
  have f5 : n / 256 / 256 = n / 65536 := by omega
  have f6 : 0 < n / 65536 := by omega
  have f7 : 0 ≤ n / 65536 := by omega
  have f8 : n / 65536 / 256 = 0 := by omega
  have f9 : IntKind.i64.wrap (n / 256) = n / 256 := w_i64 _ (by omega) (by omega)
  have f10 : IntKind.i64.wrap (n / 65536) = n / 65536 := w_i64 _ (by omega) (by omega)
  simp [f0, f1, f2, f3, f4, f5, f6, f7, f8, f9, f10]
  omega
end P2

end
section
/- The law LengthsOrder at the evaluator. No conditions. -/
open Ab Go TabE P1 P2 P2
set_option maxRecDepth 20000
set_option linter.unusedSimpArgs false
set_option linter.unusedVariables false
set_option maxHeartbeats 2000000
namespace P5
attribute [local simp ↓] s_seq s_reg s_regd s_cond s_block s_cons s_consG
attribute [local simp] s_nil s_loop s_round s_lpn s_lpe s_lpr firstReg s_gt s_gf s_wb s_wu s_val s_valN s_skip s_calls s_callP s_cax lookR flatR pureKs s_ret s_rgx s_sqn s_sqr s_sqe s_cdb s_bkn s_bkr s_bke s_exit s_ret' s_skip' s_finr s_finn s_fin1 s_fix s_clean s_gc0 o_tmp o_int o_bool o_nil o_str o_fn o_nil' l_hit l_miss l_nil ol_nil ol_cons ol_some x_move x_assign x_pick pk_t pk_f x_bin bn_s x_un x_extract x_callF cl_no x_callB x_callBF frzV x_conv cvx convA frame0 binA intOp resL resA results1 sealA sealLW AV.pure AV.pureL keepT x_alloc x_box bxx x_build bdx x_buildSlice bsx x_buildSliceF bsf x_load ldx x_store stx x_slice slx x_fieldAddr x_field x_index ixx x_indexAddr iax x_makeSlice msx x_nilCheck newK genOf setK lookK fillA writeL writeC readC conts TyI.mk1 sliceA boundsA boundsB fitsA numA indexAddrA fieldAddrA partA fieldA indexA appendA copyA builtinA AV.cells AV.scal chunk gcH reach keysT keepK inKs AV.keys AV.keysL Ty.isAgg eq1 eqL convA.go ltI w_u8 w_u32 w_u64 w_i64 w_fdiv w_tdiv w_tmod IntKind.bits unA
def sz (n : Int) : Int := if n < 0 then 0 else if n ≤ 127 then 1 else if n ≤ 255 then 2 else if n ≤ 65535 then 3 else if n ≤ 16777215 then 4 else 0
theorem size (n : Int) : Con E 20 110 [.int .i64 n] (.int .i64 (sz n)) := by
  unfold sz
  split
  · exact size_neg n ‹_›
  · split
    · exact size_1 n (by omega) ‹_›
    · split
      · exact size_2 n (by omega) ‹_›
      · split
        · exact size_3 n (by omega) ‹_›
        · split
          · exact size_4 n (by omega) ‹_›
          · exact size_big n (by omega)
theorem sz_pos (n : Int) (h0 : 0 ≤ n) (h : n < 16777216) : 1 ≤ sz n ∧ sz n ≤ 4 := by unfold sz; repeat' split <;> omega
theorem sz_mono (a b : Int) (h : a ≤ b) (h0 : 0 ≤ a) (hb : b < 16777216) : sz a ≤ sz b := by unfold sz; repeat' split <;> omega
theorem sz_neg (n : Int) (h : n < 0) : sz n = 0 := by unfold sz; simp [h]

theorem total_lo (tag n : Int) (h : tag < 1) : Con E 30 91 [.int .i64 tag, .int .i64 n] (.int .i64 0) := by
  refine .of (g := []) rfl ?_
  rw [aCall_fn rfl (E_fn91) rfl (Nat.le_of_ble_eq_true rfl) rfl rfl, body_91, c91]
  have f0 : tag < 1 := by omega
  simp [f0]

theorem total_hi (tag n : Int) (h : 5 < tag) : Con E 30 91 [.int .i64 tag, .int .i64 n] (.int .i64 0) := by
  refine .of (g := []) rfl ?_
  rw [aCall_fn rfl (E_fn91) rfl (Nat.le_of_ble_eq_true rfl) rfl rfl, body_91, c91]
  have f0 : ¬ tag < 1 := by omega
  have f1 : 5 < tag := by omega
  simp [f0, f1]

theorem total_in (tag n s : Int) (h0 : 1 ≤ tag) (h1 : tag ≤ 5) (hc : Con E 20 110 [.int .i64 n] (.int .i64 s)) (hs : 1 ≤ s) (hs4 : s ≤ 4) (hn : 0 ≤ n) (hn1 : n < 16777216) : Con E 30 91 [.int .i64 tag, .int .i64 n] (.int .i64 (tag + s + n)) := by
  refine .of (g := []) rfl ?_
  rw [aCall_fn rfl (E_fn91) rfl (Nat.le_of_ble_eq_true rfl) rfl rfl, body_91, c91]
  have f0 : ¬ tag < 1 := by omega
  have f1 : ¬ 5 < tag := by omega
  have f2 : ¬ s = 0 := by omega
  have w1 : IntKind.i64.wrap (tag + s) = tag + s := w_i64 _ (by omega) (by omega)
  have w2 : IntKind.i64.wrap (tag + s + n) = tag + s + n := w_i64 _ (by omega) (by omega)
  simp [f0, f1, f2, hc, w1, w2]

theorem total_no (tag n : Int) (h0 : 1 ≤ tag) (h1 : tag ≤ 5) (hc : Con E 20 110 [.int .i64 n] (.int .i64 0)) : Con E 30 91 [.int .i64 tag, .int .i64 n] (.int .i64 0) := by
  refine .of (g := []) rfl ?_
  rw [aCall_fn rfl (E_fn91) rfl (Nat.le_of_ble_eq_true rfl) rfl rfl, body_91, c91]
  have f0 : ¬ tag < 1 := by omega
  have f1 : ¬ 5 < tag := by omega
  simp [f0, f1, hc]

end P5

end
