/- Elements as trees, for the evaluator. No conditions. -/
import Derived.Test.YtbiildmljbcmeaaTabE
import Derived.Test.YtbiildmljbcmeaaB40
import Derived.Test.YtbiildmljbcmeaaB18
open Ab Go TabE
set_option linter.unusedSimpArgs false
set_option linter.unusedVariables false
set_option maxRecDepth 20000
namespace Ab
/-- An element, as the evaluator has it: its tag, its bytes and its elements, each of these with 'nil' and the capacity that is known. -/
inductive El where
  | mk (c : Int) (k : Bool) (n : Int) (fb : Bool) (b : List Int) (cb : Option Nat) (fs : Bool) (s : List El) (cs : Option Nat)
namespace El
def c : El → Int | mk c _ _ _ _ _ _ _ _ => c
def k : El → Bool | mk _ k _ _ _ _ _ _ _ => k
def n : El → Int | mk _ _ n _ _ _ _ _ _ => n
def fb : El → Bool | mk _ _ _ fb _ _ _ _ _ => fb
def b : El → List Int | mk _ _ _ _ b _ _ _ _ => b
def cb : El → Option Nat | mk _ _ _ _ _ cb _ _ _ => cb
def fs : El → Bool | mk _ _ _ _ _ _ fs _ _ => fs
def s : El → List El | mk _ _ _ _ _ _ _ s _ => s
def cs : El → Option Nat | mk _ _ _ _ _ _ _ _ cs => cs
mutual
def av : El → AV
  | mk c k n fb b cb fs s cs => .agg [.int .u8 c, .bool k, .int .u32 n, .sl fb (bs b) cb, .sl fs (avs s) cs]
def avs : List El → List AV
  | [] => []
  | e :: r => av e :: avs r
end
theorem avs_map : ∀ l, avs l = l.map av
  | [] => rfl
  | e :: r => by rw [avs, avs_map r]; rfl
theorem av_eq (e : El) : e.av = .agg [.int .u8 e.c, .bool e.k, .int .u32 e.n, .sl e.fb (bs e.b) e.cb, .sl e.fs (avs e.s) e.cs] := by cases e; rfl
theorem av_pure (e : El) : e.av.pure = true := by rw [av_eq]; rfl
theorem avs_pure : ∀ l, AV.pureL (avs l) = true
  | [] => rfl
  | e :: r => by rw [avs, AV.pureL, av_pure, avs_pure r]; rfl
theorem av_keys (e : El) : e.av.keys = [] := AV.keys_pure _ (av_pure e)
theorem avs_keys (l) : AV.keysL (avs l) = [] := AV.keysL_pure _ (avs_pure l)
theorem avs_len (l) : (avs l).length = l.length := by rw [avs_map, List.length_map]
theorem avs_get (l : List El) (i : Nat) : (avs l)[i]? = (l[i]?).map av := by rw [avs_map, List.getElem?_map]
theorem avs_app (a b) : avs (a ++ b) = avs a ++ avs b := by rw [avs_map, avs_map, avs_map, List.map_append]
theorem sz_lt {e x : El} (h : x ∈ e.s) : sizeOf x < sizeOf e := by
  cases e
  have := List.sizeOf_lt_of_mem h
  simp only [s] at *
  simp only [mk.sizeOf_spec]
  omega
theorem ind {P : El → Prop} (h : ∀ e, (∀ x ∈ e.s, P x) → P e) : ∀ e, P e := by
  intro e
  generalize hn : sizeOf e = m
  induction m using Nat.strongRecOn generalizing e with
  | ind m ih => exact h e fun x hx => ih (sizeOf x) (by rw [← hn]; exact sz_lt hx) x rfl
end El
/-- What an element says: without 'nil' and capacities. -/
inductive Cr where
  | mk (c : Int) (k : Bool) (n : Int) (b : List Int) (s : List Cr)
namespace El
mutual
def core : El → Cr
  | mk c k n _ b _ _ s _ => .mk c k n b (cores s)
def cores : List El → List Cr
  | [] => []
  | e :: r => core e :: cores r
end
theorem cores_map : ∀ l, cores l = l.map core
  | [] => rfl
  | e :: r => by rw [cores, cores_map r]; rfl
theorem core_eq (e : El) : e.core = .mk e.c e.k e.n e.b (cores e.s) := by cases e; rfl
theorem core_inj {a b : El} : a.core = b.core ↔ a.c = b.c ∧ a.k = b.k ∧ a.n = b.n ∧ a.b = b.b ∧ cores a.s = cores b.s := by
  rw [core_eq, core_eq]; simp
theorem cores_len {a b : List El} (h : cores a = cores b) : a.length = b.length := by
  have := congrArg List.length h
  simpa [cores_map] using this
theorem cores_get {a b : List El} (h : cores a = cores b) {i : Nat} {x y : El} (hx : a[i]? = some x) (hy : b[i]? = some y) : x.core = y.core := by
  have := congrArg (fun l => l[i]?) h
  simp [cores_map, hx, hy] at this
  exact this
mutual
def ok : El → Prop
  | mk c _ n _ b _ _ s _ => (0 ≤ c ∧ c < 256) ∧ (0 ≤ n ∧ n < 4294967296) ∧ isB b ∧ b.length ≤ 9223372036854775807 ∧ s.length ≤ 9223372036854775807 ∧ oks s
def oks : List El → Prop
  | [] => True
  | e :: r => ok e ∧ oks r
end
theorem oks_all : ∀ {l}, oks l ↔ ∀ x ∈ l, ok x
  | [] => by simp [oks]
  | e :: r => by rw [oks, oks_all (l := r)]; simp
theorem ok_eq (e : El) : e.ok ↔ (0 ≤ e.c ∧ e.c < 256) ∧ (0 ≤ e.n ∧ e.n < 4294967296) ∧ isB e.b ∧ e.b.length ≤ 9223372036854775807 ∧ e.s.length ≤ 9223372036854775807 ∧ ∀ x ∈ e.s, x.ok := by
  cases e; rw [ok, oks_all]; rfl
theorem ok.cb {e : El} (h : e.ok) : 0 ≤ e.c ∧ e.c < 256 := ((ok_eq e).1 h).1
theorem ok.nb {e : El} (h : e.ok) : 0 ≤ e.n ∧ e.n < 4294967296 := ((ok_eq e).1 h).2.1
theorem ok.bb {e : El} (h : e.ok) : isB e.b := ((ok_eq e).1 h).2.2.1
theorem ok.bl {e : El} (h : e.ok) : e.b.length ≤ 9223372036854775807 := ((ok_eq e).1 h).2.2.2.1
theorem ok.sl {e : El} (h : e.ok) : e.s.length ≤ 9223372036854775807 := ((ok_eq e).1 h).2.2.2.2.1
theorem ok.sub {e : El} (h : e.ok) : ∀ x ∈ e.s, x.ok := ((ok_eq e).1 h).2.2.2.2.2
theorem av_cells (e : El) : e.av.cells = [.int .u8 e.c, .bool e.k, .int .u32 e.n, .sl e.fb (bs e.b) e.cb, .sl e.fs (avs e.s) e.cs] := by rw [av_eq]; rfl
/-- The elements' cells, one after the other. -/
theorem at_ (f c) (l : List El) (i : Nat) (x : El) (h : l[i]? = some x) : ∀ hp, indexAddrA E 28 (.sl f (avs l) c) (.int .i64 i) hp = some (.pel [.int .u8 x.c, .bool x.k, .int .u32 x.n, .sl x.fb (bs x.b) x.cb, .sl x.fs (avs x.s) x.cs]) := by
  intro hp
  have hi : i < l.length := (List.getElem?_eq_some_iff.1 h).1
  unfold indexAddrA
  simp only [E_ty28, E_ty30]
  rw [if_pos ⟨by omega, by rw [avs_len]; omega⟩]
  simp only [Int.toNat_natCast, avs_get, h, Option.map_some]
  rw [av_cells]
  rfl
end El
/-- One bound for all. -/
theorem unif {α : Type} {P : α → Nat → Prop} (mono : ∀ x n m, P x n → n ≤ m → P x m) : ∀ (l : List α), (∀ x ∈ l, ∃ n, P x n) → ∃ n, ∀ x ∈ l, P x n
  | [], _ => ⟨0, fun x h => by cases h⟩
  | a :: l, h => by
    obtain ⟨n, hn⟩ := unif mono l fun x hx => h x (List.mem_cons_of_mem _ hx)
    obtain ⟨m, hm⟩ := h a (List.mem_cons_self ..)
    refine ⟨max n m, fun x hx => ?_⟩
    rcases List.mem_cons.1 hx with rfl | hx
    · exact mono _ _ _ hm (by omega)
    · exact mono _ _ _ (hn x hx) (by omega)
theorem w64' (n : Int) (h0 : -9223372036854775808 ≤ n) (h1 : n < 9223372036854775808) : IntKind.i64.wrap n = n := w_i64 n h0 h1
/-- A loop that goes N rounds and then leaves. -/
theorem loopR {f : St → Option (AExit × St)} {cl : St → St} {k : Nat} {s0 : St} {r : AExit × St} (S : Nat → St) (N : Nat) (h0 : s0 = S 0) (step : ∀ i, i < N → f (cl (S i)) = some (.normal, S (i + 1))) (last : f (cl (S N)) = some r) (hr : r.1 ≠ .normal) (hk : N < k) : aLoop f cl k s0 = some r := by
  subst h0
  have gen : ∀ m i k, i + m = N → m < k → aLoop f cl k (S i) = some r := by
    intro m
    induction m with
    | zero =>
      intro i k hi hk
      obtain rfl : i = N := by omega
      obtain ⟨k, rfl⟩ : ∃ j, k = j + 1 := ⟨k - 1, by omega⟩
      simp only [aLoop, last]
      obtain ⟨e, s⟩ := r
      cases e <;> first | rfl | exact absurd rfl hr
    | succ m ih =>
      intro i k hi hk
      obtain ⟨k, rfl⟩ : ∃ j, k = j + 1 := ⟨k - 1, by omega⟩
      simp only [aLoop, step i (by omega)]
      exact ih (i + 1) k (by omega) (by omega)
  exact gen N 0 k (by omega) hk
/-- The loops of a code, from left to right, without those inside of them. -/
def lps : Code → List Code
  | .seq a b => lps a ++ lps b
  | .block _ b => lps b
  | .cond _ a b => lps a ++ lps b
  | .loop b => [b]
  | _ => []
def lp (c : Code) (i : Nat) : Code := ((lps c)[i]?).getD .skip
/-- A round of a loop. -/
abbrev rnd (fn : AFn) (b : Code) (q k1 : Nat) (s : St) : Option (AExit × St) := aCode E (aCall E q) (dcall (aRun E q)) k1 1 fn b (cleanS 1 ((firstReg b).bind fn.head) s)
theorem loopQ {fn : AFn} {b : Code} {K k : Nat} {s0 : St} {r : AExit × St} (S : Nat → St) (N : Nat) (h0 : s0 = S 0) (step : ∀ i, i < N → rnd fn b K K (S i) = some (.normal, S (i + 1))) (last : rnd fn b K K (S N) = some r) (hr : r.1 ≠ .normal) (hk : N < k) :
    aLoop (aCode E (aCall E K) (dcall (aRun E K)) K 1 fn b) (cleanS 1 ((firstReg b).bind fn.head)) k s0 = some r := loopR S N h0 step last hr hk
/-- The same of a function that lends. -/
abbrev rndO (fn : AFn) (b : Code) (q k1 : Nat) (s : St) : Option (AExit × St) := aCode E (site fn (aRun E q)) (dcall (aRun E q)) k1 1 fn b (cleanS 1 ((firstReg b).bind fn.head) s)
theorem loopO {fn : AFn} {b : Code} {K k : Nat} {s0 : St} {r : AExit × St} (S : Nat → St) (N : Nat) (h0 : s0 = S 0) (step : ∀ i, i < N → rndO fn b K K (S i) = some (.normal, S (i + 1))) (last : rndO fn b K K (S N) = some r) (hr : r.1 ≠ .normal) (hk : N < k) :
    aLoop (aCode E (site fn (aRun E K)) (dcall (aRun E K)) K 1 fn b) (cleanS 1 ((firstReg b).bind fn.head)) k s0 = some r := loopR S N h0 step last hr hk
theorem con_of {f : FuncId} {fn : AFn} {args : List AV} {v : AV} {K : Nat} {g : Heap} (h2 : E.fn f = some fn) (h3 : AV.pureL args = true) (h4 : args.length ≤ fn.ntmps) (h5 : E.grd f = none) (h6 : fn.opn = fun _ => none)
    (h : sealR [] (finA E fn (aCode E (aCall E K) (dcall (aRun E K)) K 1 fn fn.body ⟨frame0 args 0, []⟩)) = some (.ret v, g)) (h1 : E.prim f = none := by rfl) : Con E (K + 1) f args v := by
  refine .of (g := g) h3 ?_
  rw [aCall_fn h1 h2 h3 h4 h5 h6]
  exact h
theorem con_ofO {f : FuncId} {fn : AFn} {args : List AV} {v : AV} {K : Nat} {g : Heap} (h2 : E.fn f = some fn) (h3 : AV.pureL args = true) (h4 : args.length ≤ fn.ntmps) (h5 : E.grd f = none)
    (h : sealR [] (finA E fn (aCode E (site fn (aRun E K)) (dcall (aRun E K)) K 1 fn fn.body ⟨frame0 args 0, []⟩)) = some (.ret v, g)) (h1 : E.prim f = none := by rfl) : Con E (K + 1) f args v := by
  refine .of (g := g) h3 ?_
  rw [aCall_fnO h1 h2 h3 h4 h5]
  exact h
/-- A variable's things. -/
abbrev bx (cs : List AV) : AObj := ⟨cs, true, true, true, 1, false⟩
abbrev ec (a : El) : List AV := [.int .u8 a.c, .bool a.k, .int .u32 a.n, .sl a.fb (bs a.b) a.cb, .sl a.fs (El.avs a.s) a.cs]
theorem aLoop_succ {f : St → Option (AExit × St)} {cl : St → St} {k : Nat} {s s' : St} (h : f (cl s) = some (.normal, s')) : aLoop f cl (k + 1) s = aLoop f cl k s' := by simp only [aLoop, h]
theorem aLoop_end {f : St → Option (AExit × St)} {cl : St → St} {k : Nat} {s : St} {r : AExit × St} (h : f (cl s) = some r) (he : r.1 ≠ .normal) : aLoop f cl (k + 1) s = some r := by
  obtain ⟨e, s'⟩ := r
  simp only [aLoop, h]
  cases e <;> first | rfl | exact absurd rfl he
def runL {α σ : Type} (nx : σ → α → σ ⊕ (AExit × St)) (fin : σ → AExit × St) : List α → σ → AExit × St
  | [], c => fin c
  | x :: r, c => match nx c x with
    | .inl c' => runL nx fin r c'
    | .inr q => q
/-- A loop over a row, what it carries along. -/
theorem loopL {α σ : Type} {f : St → Option (AExit × St)} {cl : St → St} (s : List α) (S : Nat → σ → St) (nx : σ → α → σ ⊕ (AExit × St)) (fin : σ → AExit × St) (G : σ → Prop)
    (hstep : ∀ i x c, s[i]? = some x → G c → (∀ c', nx c x = .inl c' → f (cl (S i c)) = some (.normal, S (i + 1) c') ∧ G c') ∧ (∀ r, nx c x = .inr r → f (cl (S i c)) = some r ∧ r.1 ≠ .normal))
    (hlast : ∀ c, G c → f (cl (S s.length c)) = some (fin c) ∧ (fin c).1 ≠ .normal) :
    ∀ (rest : List α) (i : Nat) (c : σ) (k : Nat), s.drop i = rest → i + rest.length = s.length → G c → rest.length < k → aLoop f cl k (S i c) = some (runL nx fin rest c)
  | [], i, c, k, h1, h2, hg, hk => by
    obtain ⟨k, rfl⟩ : ∃ j, k = j + 1 := ⟨k - 1, by simp at hk; omega⟩
    obtain rfl : i = s.length := by simpa using h2
    obtain ⟨a, b⟩ := hlast c hg
    exact aLoop_end a b
  | x :: rest, i, c, k, h1, h2, hg, hk => by
    obtain ⟨k, rfl⟩ : ∃ j, k = j + 1 := ⟨k - 1, by simp at hk; omega⟩
    have hx : s[i]? = some x := by
      have := congrArg (fun l => l[0]?) h1
      simpa [List.getElem?_drop] using this
    have hd : s.drop (i + 1) = rest := by
      have := congrArg List.tail h1
      simpa [List.tail_drop] using this
    obtain ⟨a, b⟩ := hstep i x c hx hg
    unfold runL
    cases e : nx c x with
    | inl c' =>
      obtain ⟨a1, a2⟩ := a c' e
      rw [aLoop_succ a1]
      exact loopL s S nx fin G hstep hlast rest (i + 1) c' k hd (by simp at h2; omega) a2 (by simp at hk; omega)
    | inr q =>
      obtain ⟨b1, b2⟩ := b q e
      exact aLoop_end b1 b2
/-- All, or a first one that is not. -/
theorem first_bad (p : Nat → Prop) : ∀ n, (∀ i, i < n → p i) ∨ ∃ j, j < n ∧ ¬ p j ∧ ∀ i, i < j → p i
  | 0 => .inl fun i h => by omega
  | n + 1 => by
    rcases first_bad p n with h | ⟨j, h1, h2, h3⟩
    · by_cases q : p n
      · exact .inl fun i hi => by
          by_cases e : i = n
          · subst e; exact q
          · exact h i (by omega)
      · exact .inr ⟨n, by omega, q, h⟩
    · exact .inr ⟨j, by omega, h2, h3⟩
theorem con_prim {f : FuncId} {p : List AV → Option AV} {args : List AV} {v : AV} (hf : E.prim f = some p) (ha : AV.pureL args = true) (hp : p args = some v) (hv : v.pure = true) : Con E 1 f args v := by
  refine .of (g := []) ha ?_
  show sealed (aRun E 1) 0 f args [] = _
  unfold sealed
  rw [sealL_of_pure 19 args [] ha]
  simp only [ha, if_true, aRun, hf, hp, Option.bind_some, hv]
  simp only [sealR]
  rw [sealA_of_pure hv]
  simp only [hv, if_true]
end Ab
