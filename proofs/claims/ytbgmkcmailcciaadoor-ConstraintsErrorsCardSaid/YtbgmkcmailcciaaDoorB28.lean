/- The evaluator step by step, for simp. Own work, no conditions. -/
import Derived.Test.YtbgmkcmailcciaaDoorB27
set_option linter.unusedVariables false
set_option linter.unusedSimpArgs false
namespace Ab
open Go

section
variable {E : Env} {call sc : CallF} {lvl n fuel : Nat} {fn : AFn}

def nxc (E : Env) (call : CallF) (lvl n : Nat) (d : Option Nat) (r : List Oper) (s : St) : Option (ARes × Heap) → Option (AExit × St)
  | some (.ret v, h) => (putT n s.t d v).bind fun t => aOps E call lvl n r ⟨t, h⟩
  | some (.panic ch, h) => some (.panic ch, ⟨s.t, h⟩)
  | none => none
def nx (E : Env) (call : CallF) (lvl n : Nat) (d : Option Nat) (r : List Oper) (s : St) : Option OpR → Option (AExit × St)
  | some (.val v h) => (putT n s.t d v).bind fun t => aOps E call lvl n r ⟨t, h⟩
  | some (.skip h) => (putT n s.t d (.tup [])).bind fun t => aOps E call lvl n r ⟨t, h⟩
  | some (.panic v) => some (.panic [v], s)
  | some (.call f args) => nxc E call lvl n d r s (call (d.getD 0) f args s.h)
  | none => none
theorem s_nil {s} : aOps E call lvl n [] s = some (.normal, s) := rfl
theorem s_cons {d op ty p a r t h} : aOps E call lvl n (⟨d, op, ty, p, a, none⟩ :: r) ⟨t, h⟩ = nx E call lvl n d r ⟨t, h⟩ (aOp E lvl t h ⟨d, op, ty, p, a, none⟩) := by
  simp only [aOps, wantedA]
  cases aOp E lvl t h ⟨d, op, ty, p, a, none⟩ with
  | none => rfl
  | some q => cases q <;> rfl
def gx (E : Env) (call : CallF) (lvl n : Nat) (d : Option Nat) (r : List Oper) (s : St) (x : Option OpR) : Option Bool → Option (AExit × St)
  | some true => nx E call lvl n d r s x
  | some false => (putT n s.t d (.tup [])).bind fun t => aOps E call lvl n r ⟨t, s.h⟩
  | none => none
def wants (want : Bool) : Option AV → Option Bool
  | some (.bool b) => some (b == want)
  | some _ => some false
  | none => none
theorem s_consG {d op ty p a r t h j w} : aOps E call lvl n (⟨d, op, ty, p, a, some (j, w)⟩ :: r) ⟨t, h⟩ = gx E call lvl n d r ⟨t, h⟩ (aOp E lvl t h ⟨d, op, ty, p, a, none⟩) (wants w (lookT t j)) := by
  have e : aOp E lvl t h ⟨d, op, ty, p, a, some (j, w)⟩ = aOp E lvl t h ⟨d, op, ty, p, a, none⟩ := rfl
  simp only [aOps, wantedA, e]
  cases lookT t j with
  | none => rfl
  | some v =>
    cases v with
    | bool b =>
      simp only [wants]
      cases b == w with
      | false => rfl
      | true =>
        simp only [gx]
        cases aOp E lvl t h ⟨d, op, ty, p, a, none⟩ with
        | none => rfl
        | some q => cases q <;> rfl
    | _ => rfl
theorem s_gt {d r s x} : gx E call lvl n d r s x (some true) = nx E call lvl n d r s x := rfl
theorem s_gf {d r t h x} : gx E call lvl n (some d) r ⟨t, h⟩ x (some false) = if d < n then aOps E call lvl n r ⟨(d, .tup []) :: t, h⟩ else none := by
  simp only [gx, putT]
  split <;> rfl
theorem s_wb {w b} : wants w (some (.bool b)) = some (b == w) := rfl
theorem s_wu {w} : wants w (some (.tup [])) = some false := rfl
theorem s_val {d r t h0 v h} : nx E call lvl n (some d) r ⟨t, h0⟩ (some (.val v h)) = if d < n then aOps E call lvl n r ⟨(d, v) :: t, h⟩ else none := by
  simp only [nx, putT]
  split <;> rfl
theorem s_valN {r t h0 v h} : nx E call lvl n none r ⟨t, h0⟩ (some (.val v h)) = aOps E call lvl n r ⟨t, h⟩ := rfl
theorem s_skip {r t h0 h} : nx E call lvl n none r ⟨t, h0⟩ (some (.skip h)) = aOps E call lvl n r ⟨t, h⟩ := rfl
theorem s_call {d r t h f args} : nx E call lvl n d r ⟨t, h⟩ (some (.call f args)) = nxc E call lvl n d r ⟨t, h⟩ (call (d.getD 0) f args h) := rfl
theorem s_ret {d r t h0 v h} : nxc E call lvl n (some d) r ⟨t, h0⟩ (some (.ret v, h)) = if d < n then aOps E call lvl n r ⟨(d, v) :: t, h⟩ else none := by
  simp only [nxc, putT]
  split <;> rfl

def rgx (lvl : Nat) (keep : Option (List Nat)) (draw : Bool) : Option (AExit × St) → Option (AExit × St)
  | some (.normal, s') => some (.normal, cleanS lvl keep s')
  | r => if draw then none else r
theorem barOf_false {ps} : barOf false ps = none := by
  unfold barOf
  split <;> simp
theorem s_reg {id ops s} : aCode E call sc fuel lvl fn (.region id ⟨ops⟩ false) s = rgx lvl (fn.keep id) false (aOps E call lvl fn.ntmps ops s) := by
  simp only [aCode, barOf_false, Bool.false_eq_true, if_false, Bool.false_and]
  cases aOps E call lvl fn.ntmps ops s with
  | none => rfl
  | some p => obtain ⟨e, s'⟩ := p; cases e <;> rfl
def rgy (b : Bool) (lvl : Nat) (keep : Option (List Nat)) : Option (AExit × St) → Option (AExit × St)
  | some (.normal, s') => if b then some (.normal, cleanS lvl keep s') else none
  | _ => none
theorem s_regD {id ops s} (hb : barOf true (fn.dyn id) = none) : aCode E call sc fuel lvl fn (.region id ⟨ops⟩ true) s = rgy (dynChk E sc lvl fn.ntmps ops s (fn.dyn id)) lvl (fn.keep id) (aOps E sc lvl fn.ntmps ops s) := by
  simp only [aCode, hb, if_true, Bool.true_and]
  cases aOps E sc lvl fn.ntmps ops s with
  | none => rfl
  | some p =>
    obtain ⟨e, s'⟩ := p
    cases e with
    | normal => simp only [rgy]; cases dynChk E sc lvl fn.ntmps ops s (fn.dyn id) <;> rfl
    | _ => rfl
/-- A region that one operation parts. -/
theorem s_regB {id ops s k} (hb : fn.dyn id = [(k, k)]) : aCode E call sc fuel lvl fn (.region id ⟨ops⟩ true) s = bindS (barX E call sc lvl fn.ntmps ops k s) fun s' => some (.normal, cleanS lvl (fn.keep id) s') := by
  have : barOf true (fn.dyn id) = some k := by rw [hb]; simp [barOf]
  simp only [aCode, this]
theorem s_rgy {keep s} : rgy true lvl keep (some (.normal, s)) = some (.normal, cleanS lvl keep s) := rfl
theorem s_dyn0 {ops s} : dynChk E call lvl n ops s [] = true := rfl
/-- A region whose order is open, none of it looked at when it runs. -/
theorem s_regd {id ops s} (hd : fn.dyn = fun _ => []) : aCode E call sc fuel lvl fn (.region id ⟨ops⟩ true) s = rgx lvl (fn.keep id) true (aOps E sc lvl fn.ntmps ops s) := by
  rw [s_regD (by rw [hd]; rfl), hd, s_dyn0]
  cases aOps E sc lvl fn.ntmps ops s with
  | none => rfl
  | some p => obtain ⟨e, s'⟩ := p; cases e <;> rfl
theorem s_rgp {keep ch s} : rgx lvl keep false (some (.panic ch, s)) = some (.panic ch, s) := rfl
theorem s_pan {d r s v} : nx E call lvl n d r s (some (.panic v)) = some (.panic [v], s) := rfl
theorem s_rgx {keep draw s} : rgx lvl keep draw (some (.normal, s)) = some (.normal, cleanS lvl keep s) := rfl
def sqx (E : Env) (call sc : CallF) (fuel lvl : Nat) (fn : AFn) (b : Code) : Option (AExit × St) → Option (AExit × St)
  | some (.normal, s') => aCode E call sc fuel lvl fn b s'
  | r => r
theorem s_seq {a b s} : aCode E call sc fuel lvl fn (.seq a b) s = sqx E call sc fuel lvl fn b (aCode E call sc fuel lvl fn a s) := by
  simp only [aCode]
  cases aCode E call sc fuel lvl fn a s with
  | none => rfl
  | some p => obtain ⟨e, s'⟩ := p; cases e <;> rfl
theorem s_sqn {b s} : sqx E call sc fuel lvl fn b (some (.normal, s)) = aCode E call sc fuel lvl fn b s := rfl
theorem s_sqr {b s} : sqx E call sc fuel lvl fn b (some (.ret, s)) = some (.ret, s) := rfl
theorem s_sqp {b s ch} : sqx E call sc fuel lvl fn b (some (.panic ch, s)) = some (.panic ch, s) := rfl
theorem s_sqe {b s i} : sqx E call sc fuel lvl fn b (some (.exit i, s)) = some (.exit i, s) := rfl
def cdx (E : Env) (call sc : CallF) (fuel lvl : Nat) (fn : AFn) (a b : Code) (s : St) : Option AV → Option (AExit × St)
  | some (.bool r) => if r then aCode E call sc fuel lvl fn a s else aCode E call sc fuel lvl fn b s
  | _ => none
theorem s_cond {c a b t h} : aCode E call sc fuel lvl fn (.cond c a b) ⟨t, h⟩ = cdx E call sc fuel lvl fn a b ⟨t, h⟩ (opd E t c) := by
  simp only [aCode]
  cases opd E t c with
  | none => rfl
  | some v => cases v <;> rfl
theorem s_cdb {a b s r} : cdx E call sc fuel lvl fn a b s (some (.bool r)) = if r = true then aCode E call sc fuel lvl fn a s else aCode E call sc fuel lvl fn b s := rfl
def bkx (id : Nat) : Option (AExit × St) → Option (AExit × St)
  | some (.exit id', s') => if id' = id then some (.normal, s') else some (.exit id', s')
  | r => r
theorem s_block {id b s} : aCode E call sc fuel lvl fn (.block id b) s = bkx id (aCode E call sc fuel lvl fn b s) := by
  simp only [aCode]
  cases aCode E call sc fuel lvl fn b s with
  | none => rfl
  | some p => obtain ⟨e, s'⟩ := p; cases e <;> rfl
theorem s_bkn {id s} : bkx id (some (.normal, s)) = some (.normal, s) := rfl
theorem s_bkr {id s} : bkx id (some (.ret, s)) = some (.ret, s) := rfl
theorem s_bkp {id ch s} : bkx id (some (.panic ch, s)) = some (.panic ch, s) := rfl
theorem s_bke {id i s} : bkx id (some (.exit i, s)) = if i = id then some (.normal, s) else some (.exit i, s) := rfl
theorem s_exit {id s} : aCode E call sc fuel lvl fn (.exit id) s = some (.exit id, s) := rfl
theorem s_ret' {s} : aCode E call sc fuel lvl fn .ret s = some (.ret, s) := rfl
theorem s_skip' {s} : aCode E call sc fuel lvl fn .skip s = some (.normal, s) := rfl
theorem s_loop {b s} : aCode E call sc fuel lvl fn (.loop b) s = aLoop (aCode E call sc fuel lvl fn b) (cleanS lvl ((firstReg b).bind fn.head)) fuel s := rfl

def fin1 (h : Heap) : Option (List AV) → Option (ARes × Heap)
  | some vs => some (.ret (results1 vs), h)
  | none => none
theorem s_finr {t h} : finA E fn (some (.ret, ⟨t, h⟩)) = fin1 h (resL E t h fn.results) := rfl
theorem s_finn {t h} : finA E fn (some (.normal, ⟨t, h⟩)) = fin1 h (resL E t h fn.results) := rfl
theorem s_finp {s ch} : finA E fn (some (.panic ch, s)) = some (.panic ch, s.h) := rfl
theorem s_fin1 {h vs} : fin1 h (some vs) = some (.ret (results1 vs), h) := rfl
theorem s_fix {h1 h v} : sealR h1 (some (.ret v, h)) = match sealA 20 h v with
      | some (v', _) => if v'.pure then some (.ret v', h1) else none
      | none => none := rfl
theorem s_fixp {h1 h ch} : sealR h1 (some (.panic ch, h)) = if AV.pureL ch then some (.panic ch, h1) else none := rfl
theorem s_clean {ks t h} : cleanS lvl (some ks) ⟨t, h⟩ = ⟨keepT t ks, gcH lvl (keepT t ks) h⟩ := rfl
theorem s_gc0 {t} : gcH lvl t [] = [] := rfl

def lpx (f : St → Option (AExit × St)) (cl : St → St) (k : Nat) : Option (AExit × St) → Option (AExit × St)
  | some (.normal, s') => aLoop f cl k s'
  | r => r
theorem s_round {f : St → Option (AExit × St)} {cl k s} : aLoop f cl (k + 1) s = lpx f cl k (f (cl s)) := by
  simp only [aLoop]
  cases f (cl s) with
  | none => rfl
  | some p => obtain ⟨e, s'⟩ := p; cases e <;> rfl
theorem s_lpn {f : St → Option (AExit × St)} {cl k s} : lpx f cl k (some (.normal, s)) = aLoop f cl k s := rfl
theorem s_lpe {f : St → Option (AExit × St)} {cl k s i} : lpx f cl k (some (.exit i, s)) = some (.exit i, s) := rfl
theorem s_lpp {f : St → Option (AExit × St)} {cl k s ch} : lpx f cl k (some (.panic ch, s)) = some (.panic ch, s) := rfl
theorem s_lpr {f : St → Option (AExit × St)} {cl k s} : lpx f cl k (some (.ret, s)) = some (.ret, s) := rfl

/-! operands -/
theorem o_tmp {t i} : opd E t (.tmp i) = lookT t i := rfl
theorem o_int {t k i} : opd E t (.const (.int k i)) = some (.int k i) := rfl
theorem o_bool {t b} : opd E t (.const (.bool b)) = some (.bool b) := rfl
theorem o_nil {t} : opd E t (.const (.slice none 0 0)) = some (.sl true [] (some 0)) := rfl
theorem o_str {t s} : opd E t (.const (.string s)) = some (.str (s.data.toList.map fun b => (b.toNat : Int))) := rfl
theorem o_fn {t f} : opd E t (.func f) = some (.fn f [] []) := rfl
theorem o_agg {t l} : opd E t (.const (.agg ⟨l⟩)) = ofV (.agg ⟨l⟩) := rfl
theorem o_nil' {t} : opd E t (.const (.pointer none)) = some .nilp := rfl
theorem l_hit {t i v} : lookT ((i, v) :: t) i = some v := by simp [lookT]
theorem l_miss {t i j v} (h : i ≠ j) : lookT ((i, v) :: t) j = lookT t j := by simp [lookT, h]
theorem l_nil {i} : lookT [] i = none := rfl
theorem ol_nil {t} : opdL E t [] = some [] := rfl
def olx (E : Env) (t : Fr) (r : List Operand) : Option AV → Option (List AV)
  | some v => (opdL E t r).map (v :: ·)
  | none => none
theorem ol_cons {t x r} : opdL E t (x :: r) = olx E t r (opd E t x) := by
  simp only [opdL]
  cases opd E t x with
  | none => rfl
  | some v => cases h : opdL E t r <;> simp [olx, h]
theorem ol_some {t r v} : olx E t r (some v) = (opdL E t r).map (v :: ·) := rfl

/-! operations -/
variable {t : Fr} {h : Heap} {d : Option Nat} {ty : TypeId} {p : String} {a : Array Edge}
theorem x_move {x} : aOp E lvl t h ⟨d, .move x, ty, p, a, none⟩ = (opd E t x).map fun v => .val v h := rfl
theorem x_assign {x} : aOp E lvl t h ⟨d, .assign x, ty, p, a, none⟩ = (opd E t x).map fun v => .val v h := rfl
def pkx (E : Env) (t : Fr) (h : Heap) (x y : Operand) : Option AV → Option OpR
  | some (.bool r) => (opd E t (if r = true then x else y)).map fun v => .val v h
  | _ => none
theorem x_pick {c x y} : aOp E lvl t h ⟨d, .pick c x y, ty, p, a, none⟩ = pkx E t h x y (opd E t c) := by
  simp only [aOp]
  cases opd E t c with
  | none => rfl
  | some v => cases v <;> rfl
theorem pk_t {x y} : pkx E t h x y (some (.bool true)) = (opd E t x).map fun v => .val v h := rfl
theorem pk_f {x y} : pkx E t h x y (some (.bool false)) = (opd E t y).map fun v => .val v h := rfl
def bnx (E : Env) (op : BinOp) (ty : TypeId) (h : Heap) : Option AV → Option AV → Option OpR
  | some a, some b => (binA E op ty a b).map fun v => .val v h
  | _, _ => none
theorem x_bin {op u x y u2} : aOp E lvl t h ⟨d, .binOp op u x y u2, ty, p, a, none⟩ = bnx E op u h (opd E t x) (opd E t y) := by
  simp only [aOp]
  cases opd E t x with
  | none => rfl
  | some v => cases opd E t y <;> rfl
theorem bn_s {op u x y} : bnx E op u h (some x) (some y) = (binA E op u x y).map fun v => .val v h := rfl
theorem x_un {op u x} : aOp E lvl t h ⟨d, .unOp op u x, ty, p, a, none⟩ = (opd E t x).bind fun a => (unA op a).map fun v => .val v h := by
  simp only [aOp]; cases opd E t x <;> rfl
def cvx (E : Env) (lvl : Nat) (h : Heap) (d : Option Nat) (src dst : TypeId) (a : AV) : Option OpR :=
  match E.ty src, E.ty dst, a with
      | some _, some ⟨.slice e, _, _, _, _⟩, .str l =>
        match E.ty e with
        | some ⟨.int .u8, 1, 1, _, _⟩ =>
          let (h', k') := newK h lvl (d.getD 0) (l.map (AV.int .u8)) false 1 false
          some (.val (.ref k' 0 l.length none) h')
        | _ => none
      | _, _, _ => (convA E src dst a h).map fun v => .val v h
theorem x_extract {x i} : aOp E lvl t h ⟨d, .extract x i, ty, p, a, none⟩ = (opd E t x).bind fun | .tup vs => (vs[i]?).map fun v => .val v h | _ => none := by
  simp only [aOp]; cases opd E t x with
  | none => rfl
  | some v => cases v <;> rfl
theorem x_callF {f args ts} : aOp E lvl t h ⟨d, .call ⟨.value (.func f), ⟨args⟩, ts⟩, ty, p, a, none⟩ = (opdL E t args).bind fun vs => callA E f vs h := by
  simp only [aOp, opd]; cases opdL E t args <;> simp
theorem cl_no {f vs} (hx : E.ext f = false) : callA E f vs h = some (.call f vs) := by unfold callA; rw [hx]; rfl
theorem cl_yes {f vs} (hx : E.ext f = true) : callA E f vs h = (extA vs).map fun v => .val v h := by unfold callA; rw [hx]; rfl
theorem x_callB {b args ts} : aOp E lvl t h ⟨d, .call ⟨.builtin b, ⟨args⟩, ⟨ts⟩⟩, ty, p, a, none⟩ = (opdL E t args).bind fun vs => builtinA E lvl (d.getD 0) h b ts vs := by
  simp only [aOp]; cases opdL E t args <;> rfl
theorem x_conv {src dst x} : aOp E lvl t h ⟨d, .convert src dst x, ty, p, a, none⟩ = (opd E t x).bind fun a => cvx E lvl h d src dst a := by
  simp only [aOp]; cases opd E t x <;> rfl
theorem x_alloc {e} : aOp E lvl t h ⟨d, .alloc e, ty, p, a, none⟩ = (E.ty e).map fun τ => .val (.ptr (newK h lvl (d.getD 0) τ.zero true 1 false).2 0) (newK h lvl (d.getD 0) τ.zero true 1 false).1 := by
  simp only [aOp]; cases E.ty e <;> rfl
def bxx (lvl : Nat) (h : Heap) (d : Option Nat) : Option TyI → Option AV → Option OpR
  | some τ, some a => if a.cells.all AV.scal then some (.val (.ptr (newK h lvl (d.getD 0) a.cells true 1 false).2 0) (newK h lvl (d.getD 0) a.cells true 1 false).1) else none
  | _, _ => none
theorem x_box {e x} : aOp E lvl t h ⟨d, .box e x, ty, p, a, none⟩ = bxx lvl h d (E.ty e) (opd E t x) := by
  simp only [aOp]; cases E.ty e <;> cases opd E t x <;> rfl
def bdx (E : Env) (h : Heap) (is : List Nat) : Option TyI → Option (List AV) → Option OpR
    | some ⟨.strct fs, _, _, zero, _⟩, some vs =>
      if fs.all (fun p => (E.ty p.2).isSome) = false then none else
      (fillA (fun i => match fs[i]? with
        | some (off, ft) => (E.ty ft).map fun τ => (off, τ.size)
        | none => none) zero (is.zip vs)).map fun cs => .val (.agg cs) h
    | some ⟨.arr _ e, _, _, zero, _⟩, some vs =>
      match E.ty e with
      | some τ => (fillA (fun i => some (i * τ.size, τ.size)) zero (is.zip vs)).map fun cs => .val (.agg cs) h
      | none => none
    | _, _ => none
theorem x_build {u parts} : aOp E lvl t h ⟨d, .build u ⟨parts⟩, ty, p, a, none⟩ = bdx E h (parts.map (·.1)) (E.ty u) (opdL E t (parts.map (·.2))) := by
  simp only [aOp, bdx]
  cases E.ty u with
  | none => rfl
  | some τ =>
    obtain ⟨d, a1, a2, a3, a4⟩ := τ
    cases opdL E t (parts.map (·.2)) <;> cases d <;> rfl
def bsx (E : Env) (lvl : Nat) (h : Heap) (d : Option Nat) (len : Nat) (is : List Nat) : Option TyI → Option (List AV) → Option OpR
    | some ⟨.slice e, _, _, _, _⟩, some vs =>
      match E.ty e with
      | some τ =>
        if len * τ.size ≤ 16777216 ∧ τ.zero.length = τ.size ∧ 0 < τ.size ∧ (τ.size = 1 ∨ τ.d.isAgg = true) then
          match fillA (fun i => some (i * τ.size, τ.size)) ((List.replicate len τ.zero).flatten) (is.zip vs) with
          | some cs => some (.val (.ref (newK h lvl (d.getD 0) cs true τ.size τ.d.isAgg).2 0 len (some len)) (newK h lvl (d.getD 0) cs true τ.size τ.d.isAgg).1)
          | none => none
        else none
      | none => none
    | _, _ => none
theorem x_buildSlice {u len parts} : aOp E lvl t h ⟨d, .buildSlice u len ⟨parts⟩, ty, p, ⟨[]⟩, none⟩ = bsx E lvl h d len (parts.map (·.1)) (E.ty u) (opdL E t (parts.map (·.2))) := by
  simp only [aOp, bsx]
  cases E.ty u with
  | none => rfl
  | some τ =>
    obtain ⟨d, a1, a2, a3, a4⟩ := τ
    cases opdL E t (parts.map (·.2)) with
    | none => cases d <;> rfl
    | some vs =>
      cases d with
      | slice e =>
        dsimp only
        cases E.ty e with
        | none => rfl
        | some τ =>
          dsimp only
          split
          · cases fillA (fun i => some (i * τ.size, τ.size)) ((List.replicate len τ.zero).flatten) ((parts.map (·.1)).zip vs) with
            | none => rfl
            | some cs => dsimp only; rw [if_neg (by simp [frzO])]
          · rfl
      | _ => rfl
/-- The same where it is made to be handed to a call. -/
def bsf (E : Env) (lvl : Nat) (h : Heap) (d : Option Nat) (len : Nat) (is : List Nat) : Option TyI → Option (List AV) → Option OpR
    | some ⟨.slice e, _, _, _, _⟩, some vs =>
      match E.ty e with
      | some τ =>
        if len * τ.size ≤ 16777216 ∧ τ.zero.length = τ.size ∧ 0 < τ.size ∧ (τ.size = 1 ∨ τ.d.isAgg = true) then
          match fillA (fun i => some (i * τ.size, τ.size)) ((List.replicate len τ.zero).flatten) (is.zip vs) with
          | some cs =>
            if AV.pureL cs = true ∧ len * τ.size ≤ cs.length then some (.val (.sl false (chunk τ.d.isAgg τ.size len (cs.take (len * τ.size))) (some len)) (setK (newK h lvl (d.getD 0) cs true τ.size τ.d.isAgg).1 (newK h lvl (d.getD 0) cs true τ.size τ.d.isAgg).2 ⟨cs, true, false, true, τ.size, τ.d.isAgg⟩))
            else some (.val (.ref (newK h lvl (d.getD 0) cs true τ.size τ.d.isAgg).2 0 len (some len)) (newK h lvl (d.getD 0) cs true τ.size τ.d.isAgg).1)
          | none => none
        else none
      | none => none
    | _, _ => none
theorem x_buildSliceF {u len parts} : aOp E lvl t h ⟨d, .buildSlice u len ⟨parts⟩, ty, p, fz, none⟩ = bsf E lvl h d len (parts.map (·.1)) (E.ty u) (opdL E t (parts.map (·.2))) := by
  simp only [aOp, bsf]
  cases E.ty u with
  | none => rfl
  | some τ =>
    obtain ⟨d, a1, a2, a3, a4⟩ := τ
    cases opdL E t (parts.map (·.2)) with
    | none => cases d <;> rfl
    | some vs =>
      cases d with
      | slice e =>
        dsimp only
        cases E.ty e with
        | none => rfl
        | some τ =>
          dsimp only
          split
          · cases fillA (fun i => some (i * τ.size, τ.size)) ((List.replicate len τ.zero).flatten) ((parts.map (·.1)).zip vs) with
            | none => rfl
            | some cs =>
              dsimp only
              by_cases hz : AV.pureL cs = true ∧ len * τ.size ≤ cs.length
              · rw [if_pos ⟨rfl, hz⟩, if_pos hz]
              · rw [if_neg (fun q => hz q.2), if_neg hz]
          · rfl
      | _ => rfl
def ldx (h : Heap) : Option TyI → Option AV → Option OpR
  | some τ, some p => (readC h p τ.size).bind fun cs => (τ.mk1 cs).map fun v => .val v h
  | _, _ => none
theorem x_load {u x} : aOp E lvl t h ⟨d, .load u x, ty, p, a, none⟩ = ldx h (E.ty u) (opd E t x) := by
  simp only [aOp, ldx]
  cases E.ty u with
  | none => rfl
  | some τ =>
    cases opd E t x with
    | none => rfl
    | some p => simp only [ldx]; cases readC h p τ.size <;> rfl
def stx (h : Heap) : Option TyI → Option AV → Option AV → Option OpR
  | some τ, some (.ptr key off), some v => if v.cells.length = τ.size then (writeC h key off v.cells).map .skip else none
  | _, _, _ => none
theorem x_store {u x y} : aOp E lvl t h ⟨d, .store u x y, ty, p, a, none⟩ = stx h (E.ty u) (opd E t x) (opd E t y) := by
  simp only [aOp, stx]
  cases E.ty u with
  | none => rfl
  | some τ =>
    cases opd E t x with
    | none => rfl
    | some p => cases opd E t y <;> cases p <;> rfl
def slx (E : Env) (h : Heap) (u : TypeId) (bl bh bm : Bool) : Option AV → Option AV → Option AV → Option AV → Option OpR
  | some a, some l, some hh, some m => (sliceA E u a (if bl then some l else none) (if bh then some hh else none) (if bm then some m else none) h).map fun v => .val v h
  | _, _, _, _ => none
theorem x_slice {u x lo hi mx} : aOp E lvl t h ⟨d, .slice u x lo hi mx, ty, p, a, none⟩ = slx E h u lo.isSome hi.isSome mx.isSome (opd E t x) ((lo.map (opd E t)).getD (some .nilp)) ((hi.map (opd E t)).getD (some .nilp)) ((mx.map (opd E t)).getD (some .nilp)) := by
  simp only [aOp]
  cases opd E t x with
  | none => rfl
  | some a1 =>
    cases lo <;> cases hi <;> cases mx <;> simp only [Option.map_none, Option.map_some, Option.getD_none, Option.getD_some, Option.isSome] <;>
      (repeat' (first | rfl | (split; rename_i e; simp only [slx, *])  | (cases h : opd E t _ <;> simp only [slx, h])))
theorem x_fieldAddr {u x f} : aOp E lvl t h ⟨d, .fieldAddr u x f, ty, p, a, none⟩ = (opd E t x).bind fun a => (fieldAddrA E u a f).map fun v => .val v h := by
  simp only [aOp]; cases opd E t x <;> rfl
theorem x_field {u x f} : aOp E lvl t h ⟨d, .field u x f, ty, p, a, none⟩ = (opd E t x).bind fun a => (fieldA E u a f).map fun v => .val v h := by
  simp only [aOp]; cases opd E t x <;> rfl
def ixx (E : Env) (h : Heap) (u : TypeId) : Option AV → Option AV → Option OpR
  | some a, some b => (indexA E u a b).map fun v => .val v h
  | _, _ => none
theorem x_index {u x i} : aOp E lvl t h ⟨d, .index u x i, ty, p, a, none⟩ = ixx E h u (opd E t x) (opd E t i) := by
  simp only [aOp]; cases opd E t x <;> cases opd E t i <;> rfl
def iax (E : Env) (h : Heap) (u : TypeId) : Option AV → Option AV → Option OpR
  | some a, some b => (indexAddrA E u a b h).map fun v => .val v h
  | _, _ => none
theorem x_indexAddr {u x i} : aOp E lvl t h ⟨d, .indexAddr u x i, ty, p, a, none⟩ = iax E h u (opd E t x) (opd E t i) := by
  simp only [aOp]; cases opd E t x <;> cases opd E t i <;> rfl
def msx (E : Env) (lvl : Nat) (h : Heap) (d : Option Nat) : Option TyI → Option AV → Option AV → Option OpR
    | some ⟨.slice e, _, _, _, _⟩, some (.int .i64 l), some (.int .i64 c) =>
      match E.ty e with
      | some τ =>
        if 0 ≤ l ∧ l ≤ c ∧ c * τ.bytes ≤ 70368744177664 ∧ 0 < τ.bytes ∧ τ.zero.length = τ.size ∧ 0 < τ.size ∧ (τ.size = 1 ∨ τ.d.isAgg = true) then
          some (.val (.ref (newK h lvl (d.getD 0) ((List.replicate c.toNat τ.zero).flatten) true τ.size τ.d.isAgg).2 0 l.toNat (some c.toNat)) (newK h lvl (d.getD 0) ((List.replicate c.toNat τ.zero).flatten) true τ.size τ.d.isAgg).1)
        else none
      | none => none
    | _, _, _ => none
theorem x_makeSlice {u l c} : aOp E lvl t h ⟨d, .makeSlice u l c, ty, p, a, none⟩ = msx E lvl h d (E.ty u) (opd E t l) (opd E t c) := rfl
theorem x_nilCheck {x} : aOp E lvl t h ⟨d, .nilCheck x, ty, p, a, none⟩ = match opd E t x with
    | some (.ptr a b) => some (.val (.ptr a b) h)
    | some (.pel cs) => some (.val (.pel cs) h)
    | some (.fn f a b) => some (.val (.fn f a b) h)
    | _ => none := rfl
theorem x_panic {x} : aOp E lvl t h ⟨d, .panic x, ty, p, a, none⟩ = match opd E t x with
    | some (.iface ty v) => some (.panic (.iface ty v))
    | _ => none := rfl
theorem x_tassert {x xt u} : aOp E lvl t h ⟨d, .typeAssert x xt u true, ty, p, a, none⟩ = match E.ty u, opd E t x with
    | some ⟨.iface _, _, _, _, _⟩, _ => none
    | some _, some (.iface ty v) => if ty = u then some (.val (.tup [v, .bool true]) h) else none
    | _, _ => none := rfl
theorem x_mkI {u x} : aOp E lvl t h ⟨d, .makeInterface u x, ty, p, a, none⟩ = match E.ty u, opd E t x with
    | some ⟨.iface _, _, _, _, _⟩, _ => none
    | some _, some v => some (.val (.iface u v) h)
    | _, _ => none := rfl
theorem x_mkF {f first cap} : aOp E lvl t h ⟨d, .makeFunc (.func f) ⟨first⟩ ⟨cap⟩, ty, p, a, none⟩ = match opdL E t first, opdL E t cap with
    | some a, some b => some (.val (.fn f a b) h)
    | _, _ => none := rfl
def clx (E : Env) (h : Heap) (args : List AV) : Option AV → Option OpR
  | some (.fn g first cap) => callA E g (first ++ args ++ cap) h
  | _ => none
theorem x_callT {i args ts} : aOp E lvl t h ⟨d, .call ⟨.value (.tmp i), ⟨args⟩, ts⟩, ty, p, a, none⟩ = (opdL E t args).bind fun vs => clx E h vs (lookT t i) := by
  have h0 : opd E t (.tmp i) = lookT t i := rfl
  simp only [aOp, h0]
  cases opdL E t args with
  | none => rfl
  | some vs =>
    simp only [Option.bind_some]
    cases h1 : lookT t i with
    | none => simp [clx, h0, h1]
    | some v => cases v <;> simp [clx, h0, h1]
end
end Ab
