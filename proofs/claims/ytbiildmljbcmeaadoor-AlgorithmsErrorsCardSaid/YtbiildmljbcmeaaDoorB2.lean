/- The evaluator of operations and code. Own work, no conditions. -/
import Derived.Test.YtbiildmljbcmeaaDoorB1
set_option linter.unusedVariables false
namespace Ab
open Go

def TyI.mk1 (τ : TyI) (cs : List AV) : Option AV :=
  if cs.length = τ.size then (if τ.d.isAgg then some (.agg cs) else match cs with | [c] => some c | _ => none) else none

def readC (h : Heap) (p : AV) (n : Nat) : Option (List AV) :=
  match p with
  | .ptr key off =>
    match lookK h key with
    | some o => if o.live = true ∧ off + n ≤ o.cells.length then some ((o.cells.drop off).take n) else none
    | none => none
  | .pel cs => if n ≤ cs.length then some (cs.take n) else none
  | _ => none

def writeL (cs : List AV) (off : Nat) (vs : List AV) : List AV := cs.take off ++ vs ++ cs.drop (off + vs.length)

def writeC (h : Heap) (key : Key) (off : Nat) (vs : List AV) : Option Heap :=
  match lookK h key with
  | some o => if o.live = true ∧ o.mt = true ∧ off + vs.length ≤ o.cells.length ∧ vs.all AV.scal = true then some (setK h key { o with cells := writeL o.cells off vs }) else none
  | none => none

def newK (h : Heap) (lvl slot : Nat) (cs : List AV) (exact : Bool) (esz : Nat) (eagg : Bool) : Heap × Key :=
  (setK h (lvl, slot, genOf h lvl slot) ⟨cs, true, true, exact, esz, eagg⟩, (lvl, slot, genOf h lvl slot))

def conts (h : Heap) : AV → Option (List AV × Nat)
  | .sl _ xs _ => some (xs.flatMap AV.cells, xs.length)
  | .ref key off len _ =>
    match lookK h key with
    | some o => if o.live = true ∧ off + len * o.esz ≤ o.cells.length then some ((o.cells.drop off).take (len * o.esz), len) else none
    | none => none
  | .str l => some (l.map (AV.int .u8), l.length)
  | _ => none

def fillA (place : Nat → Option (Nat × Nat)) (cells : List AV) : List (Nat × AV) → Option (List AV)
  | [] => some cells
  | (i, v) :: rest =>
    match place i with
    | none => none
    | some (off, size) =>
      if v.cells.length = size ∧ off + size ≤ cells.length ∧ v.cells.all AV.scal = true then fillA place (writeL cells off v.cells) rest else none

def intOp (op : BinOp) (k : IntKind) (a b : Int) : Option AV :=
  match op with
  | .add => some (.int k (k.wrap (a + b)))
  | .sub => some (.int k (k.wrap (a - b)))
  | .mul => some (.int k (k.wrap (a * b)))
  | .quo => if b = 0 then none else some (.int k (k.wrap (a.tdiv b)))
  | .rem => if b = 0 then none else some (.int k (a.tmod b))
  | .and => some (.int k (k.wrap (BitVec.ofInt k.bits a &&& BitVec.ofInt k.bits b).toNat))
  | .or => some (.int k (k.wrap (BitVec.ofInt k.bits a ||| BitVec.ofInt k.bits b).toNat))
  | .xor => some (.int k (k.wrap (BitVec.ofInt k.bits a ^^^ BitVec.ofInt k.bits b).toNat))
  | .andNot => some (.int k (k.wrap (BitVec.ofInt k.bits a &&& ~~~ BitVec.ofInt k.bits b).toNat))
  | .eql => some (.bool (a == b))
  | .neq => some (.bool (a != b))
  | .lss => some (.bool (decide (a < b)))
  | .leq => some (.bool (decide (a ≤ b)))
  | .gtr => some (.bool (decide (a > b)))
  | .geq => some (.bool (decide (a ≥ b)))
  | _ => none

def ltI : List Int → List Int → Bool
  | _, [] => false
  | [], _ :: _ => true
  | a :: x, b :: y => decide (a < b) || (decide (a = b) && ltI x y)

def eq1 : AV → AV → Option Bool
  | .int k a, .int k' b => if k = k' then some (a == b) else none
  | .bool a, .bool b => some (a == b)
  | _, _ => none
def eqL : List AV → List AV → Option Bool
  | [], [] => some true
  | x :: xs, y :: ys => match eq1 x y, eqL xs ys with
    | some a, some b => some (a && b)
    | _, _ => none
  | _, _ => none

def fitZ : List AV → List AV → Bool
  | [], [] => true
  | .int .. :: z, .int .. :: c => fitZ z c
  | .bool _ :: z, .bool _ :: c => fitZ z c
  | _, _ => false

def binA (E : Env) (op : BinOp) (t : TypeId) (x y : AV) : Option AV :=
  match op, x, y with
  | .shl, .int k a, .int _ b => if b < 0 then none else some (.int k (k.wrap (a * 2 ^ (min b.toNat k.bits))))
  | .shr, .int k a, .int _ b => if b < 0 then none else some (.int k (a.fdiv (2 ^ (min b.toNat k.bits))))
  | op, .int k a, .int k' b => if k = k' then intOp op k a b else none
  | .eql, .bool a, .bool b => match E.ty t with
    | some ⟨.bool, _, _, _, _⟩ => some (.bool (a == b))
    | _ => none
  | .neq, .bool a, .bool b => match E.ty t with
    | some ⟨.bool, _, _, _, _⟩ => some (.bool (!(a == b)))
    | _ => none
  | .eql, .str a, .str b => some (.bool (decide (a = b)))
  | .neq, .str a, .str b => some (.bool (!decide (a = b)))
  | .lss, .str a, .str b => some (.bool (ltI a b))
  | .gtr, .str a, .str b => some (.bool (!(ltI a b || decide (a = b))))
  | .add, .str a, .str b => if a.length + b.length ≤ 9223372036854775807 then some (.str (a ++ b)) else none
  | .eql, .agg a, .agg b => match E.ty t with
    | some τ => if τ.cmp = true ∧ fitZ τ.zero a = true then (eqL a b).map .bool else none
    | none => none
  | .neq, .agg a, .agg b => match E.ty t with
    | some τ => if τ.cmp = true ∧ fitZ τ.zero a = true then (eqL a b).map fun r => .bool (!r) else none
    | none => none
  | .eql, .sl f _ _, .sl true [] (some 0) => match E.ty t with
    | some ⟨.slice _, _, _, _, _⟩ => some (.bool f)
    | _ => none
  | .neq, .sl f _ _, .sl true [] (some 0) => match E.ty t with
    | some ⟨.slice _, _, _, _, _⟩ => some (.bool (!f))
    | _ => none
  | .eql, .iface _ _, .nili => match E.ty t with
    | some ⟨.iface _, _, _, _, _⟩ => some (.bool false)
    | _ => none
  | .neq, .iface _ _, .nili => match E.ty t with
    | some ⟨.iface _, _, _, _, _⟩ => some (.bool true)
    | _ => none
  | .eql, .nili, .nili => match E.ty t with
    | some ⟨.iface true, _, _, _, _⟩ => some (.bool true)
    | _ => none
  | .neq, .nili, .nili => match E.ty t with
    | some ⟨.iface true, _, _, _, _⟩ => some (.bool false)
    | _ => none
  | _, _, _ => none

def unA (op : UnOp) (x : AV) : Option AV :=
  match op, x with
  | .not, .bool b => some (.bool (!b))
  | .neg, .int k n => some (.int k (k.wrap (0 - n)))
  | _, _ => none

def convA (E : Env) (src dst : TypeId) (x : AV) (h : Heap) : Option AV :=
  match E.ty src, E.ty dst, x with
  | some _, some ⟨.int k, _, _, _, _⟩, .int _ n => some (.int k (k.wrap n))
  | some ⟨.slice e, _, _, _, _⟩, some ⟨.str, _, _, _, _⟩, x =>
    match E.ty e with
    | some ⟨.int .u8, _, _, _, _⟩ =>
      match x with
      | .str _ => none
      | x => match conts h x with
        | some (cs, n) => if cs.length = n then (go cs).map .str else none
        | none => none
    | _ => none
  | some _, some ⟨.str, _, _, _, _⟩, .str l => some (.str l)
  | _, _, _ => none
where
  go : List AV → Option (List Int)
    | [] => some []
    | .int .u8 n :: r => if 0 ≤ n ∧ n < 256 then (go r).map (n :: ·) else none
    | _ :: _ => none

def numA : Option AV → Option (Option Nat)
  | none => some none
  | some (.int _ n) => if 0 ≤ n then some (some n.toNat) else none
  | some _ => none
def fitsA (len : Nat) (cap : Option Nat) (n : Nat) : Bool := decide (n ≤ len) || (match cap with | some c => decide (n ≤ c) | none => false)
def boundsB (len : Nat) (cap : Option Nat) (l : Nat) (h m : Option Nat) : Option (Nat × Nat × Option Nat) :=
  match m with
  | some m => if h.isSome = true ∧ fitsA len cap m = true ∧ h.getD len ≤ m ∧ l ≤ h.getD len then some (l, h.getD len, some (m - l)) else none
  | none => if fitsA len cap (h.getD len) = true ∧ l ≤ h.getD len then some (l, h.getD len, cap.map (· - l)) else none
def boundsA (len : Nat) (cap : Option Nat) (lo hi mx : Option AV) : Option (Nat × Nat × Option Nat) :=
  match numA lo, numA hi, numA mx with
  | some l, some h, some m => boundsB len cap (l.getD 0) h m
  | _, _, _ => none

def sliceA (E : Env) (t : TypeId) (x : AV) (lo hi mx : Option AV) (h : Heap) : Option AV :=
  match E.ty t, x with
  | some ⟨.slice e, _, _, _, _⟩, .sl f xs cap =>
    match boundsA xs.length cap lo hi mx, E.ty e with
    | some (l, hh, c), some τ => if hh ≤ xs.length ∧ (l = 0 ∨ hh = l ∨ (xs[l]?).map (·.cells.length) = some τ.size) then some (.sl f ((xs.take hh).drop l) c) else none
    | _, _ => none
  | some ⟨.slice e, _, _, _, _⟩, .ref key off len cap =>
    match boundsA len cap lo hi mx, lookK h key, E.ty e with
    | some (l, hh, c), some o, some τ =>
      if τ.size = o.esz ∧ o.live = true ∧ 0 < o.esz then
        if hh = l ∧ (c = none ∨ c = some 0) then some (.sl false [] c)
        else if c = some 0 then none else some (.ref key (off + l * o.esz) (hh - l) c)
      else none
    | _, _, _ => none
  | some ⟨.arr n e, _, _, _, _⟩, .ptr key off =>
    match boundsA n (some n) lo hi mx, E.ty e with
    | some (l, hh, c), some τ =>
      match lookK h key with
      | some o => if o.esz = τ.size ∧ o.eagg = τ.d.isAgg ∧ τ.size = 1 ∧ o.live = true then
          (if c = some 0 then some (.sl false [] c) else some (.ref key (off + l * τ.size) (hh - l) c)) else none
      | none => none
    | _, _ => none
  | some ⟨.arr n e, _, _, _, _⟩, .pel cs =>
    match boundsA n (some n) lo hi mx, E.ty e with
    | some (l, hh, c), some τ => if τ.size = 1 ∧ τ.d.isAgg = false ∧ hh ≤ cs.length then some (.sl false ((cs.take hh).drop l) c) else none
    | _, _ => none
  | some ⟨.str, _, _, _, _⟩, .str l =>
    match mx, boundsA l.length (some l.length) lo hi none with
    | none, some (a, b, _) => some (.str ((l.take b).drop a))
    | _, _ => none
  | _, _ => none

def indexAddrA (E : Env) (t : TypeId) (x i : AV) (h : Heap) : Option AV :=
  match i with
  | .int _ i =>
    match E.ty t, x with
    | some ⟨.slice e, _, _, _, _⟩, .sl _ xs _ =>
      if 0 ≤ i ∧ i < xs.length then
        match xs[i.toNat]?, E.ty e with
        | some v, some τ => if v.cells.length = τ.size ∧ v.cells.all AV.scal = true then some (.pel v.cells) else none
        | _, _ => none
      else none
    | some ⟨.slice e, _, _, _, _⟩, .ref key off len _ =>
      match E.ty e with
      | some τ => if 0 ≤ i ∧ i < len then some (.ptr key (off + i.toNat * τ.size)) else none
      | none => none
    | some ⟨.arr n e, _, _, _, _⟩, .ptr key off =>
      match E.ty e with
      | some τ => if 0 ≤ i ∧ i < n then some (.ptr key (off + i.toNat * τ.size)) else none
      | none => none
    | some ⟨.arr n e, _, _, _, _⟩, .pel cs =>
      match E.ty e with
      | some τ => if 0 ≤ i ∧ i < n ∧ i.toNat * τ.size ≤ cs.length then some (.pel (cs.drop (i.toNat * τ.size))) else none
      | none => none
    | _, _ => none
  | _ => none

def fieldAddrA (E : Env) (t : TypeId) (x : AV) (f : Nat) : Option AV :=
  match E.ty t with
  | some ⟨.strct fs, _, _, _, _⟩ =>
    match fs[f]? with
    | some (off, ft) =>
      match E.ty ft with
      | some τ =>
        if τ.size = 0 then none else
        match x with
        | .ptr key o => some (.ptr key (o + off))
        | .pel cs => if off ≤ cs.length then some (.pel (cs.drop off)) else none
        | _ => none
      | none => none
    | none => none
  | _ => none

def partA (E : Env) (t : TypeId) (cs : List AV) (off : Nat) : Option AV :=
  match E.ty t with
  | some τ => if off + τ.size ≤ cs.length then τ.mk1 ((cs.drop off).take τ.size) else none
  | none => none

def fieldA (E : Env) (t : TypeId) (x : AV) (f : Nat) : Option AV :=
  match E.ty t, x with
  | some ⟨.strct fs, _, _, _, _⟩, .agg cs =>
    match fs[f]? with
    | some (off, ft) => partA E ft cs off
    | none => none
  | _, _ => none

def indexA (E : Env) (t : TypeId) (x i : AV) : Option AV :=
  match E.ty t, x, i with
  | some ⟨.arr n e, _, _, _, _⟩, .agg cs, .int _ i =>
    match E.ty e with
    | some τ => if 0 ≤ i ∧ i < n then partA E e cs (i.toNat * τ.size) else none
    | none => none
  | some ⟨.str, _, _, _, _⟩, .str l, .int _ i => if 0 ≤ i then (l[i.toNat]?).map (AV.int .u8) else none
  | _, _, _ => none

inductive OpR where
  | val (v : AV) (h : Heap)
  | skip (h : Heap)
  | call (f : FuncId) (args : List AV)
  | panic (v : AV)

def appendA (E : Env) (lvl slot : Nat) (h : Heap) (t : TypeId) (s x : AV) : Option OpR :=
  match E.ty t with
  | some ⟨.slice e, _, _, _, _⟩ =>
    match E.ty e, conts h x with
    | some τ, some (ys, n) =>
      if ys.length = n * τ.size ∧ ys.all AV.scal = true ∧ 0 < τ.bytes then
        match s with
        | .sl f xs cap =>
          match cap with
          | none => none
          | some c =>
            if xs.length + n ≤ c then (if n = 0 then some (.val s h) else none)
            else if (xs.length + n) * τ.bytes ≤ 70368744177664 ∧ (xs.flatMap AV.cells).length = xs.length * τ.size ∧ (xs.flatMap AV.cells).all AV.scal = true ∧ (τ.size = 1 ∨ τ.d.isAgg = true) then
              let (h', k') := newK h lvl slot (xs.flatMap AV.cells ++ ys) false τ.size τ.d.isAgg
              some (.val (.ref k' 0 (xs.length + n) none) h')
            else none
        | .ref k off len cap =>
          match lookK h k with
          | some o =>
            if o.live = true ∧ o.esz = τ.size ∧ 0 < τ.size ∧ o.eagg = τ.d.isAgg ∧ (τ.size = 1 ∨ τ.d.isAgg = true) ∧ off + len * o.esz ≤ o.cells.length then
              match cap with
              | some c =>
                if len + n ≤ c then
                  (match writeC h k (off + len * o.esz) ys with
                  | some h' => some (.val (.ref k off (len + n) cap) h')
                  | none => none)
                else if (len + n) * τ.bytes ≤ 70368744177664 then
                  let (h', k') := newK h lvl slot ((o.cells.drop off).take (len * o.esz) ++ ys) false τ.size τ.d.isAgg
                  some (.val (.ref k' 0 (len + n) none) h')
                else none
              | none =>
                if (len + n) * τ.bytes ≤ 70368744177664 ∧ off = 0 ∧ o.mt = true ∧ o.exact = false ∧ o.cells.length = len * o.esz then
                  let (h', k') := newK (setK h k { o with live := false }) lvl slot (o.cells ++ ys) false o.esz o.eagg
                  some (.val (.ref k' 0 (len + n) none) h')
                else none
            else none
          | none => none
        | _ => none
      else none
    | _, _ => none
  | _ => none

def copyA (E : Env) (h : Heap) (t : TypeId) (d s : AV) : Option OpR :=
  match E.ty t with
  | some ⟨.slice e, _, _, _, _⟩ =>
    match E.ty e, conts h s, d with
    | some τ, some (ys, n), .ref k off len _ =>
      let m := min n len
      if ys.length = n * τ.size then
        match writeC h k off (ys.take (m * τ.size)) with
        | some h' => some (.val (.int .i64 m) h')
        | none => none
      else none
    | some τ, some (ys, n), .sl _ [] _ => some (.val (.int .i64 0) h)
    | _, _, _ => none
  | _ => none

def builtinA (E : Env) (lvl slot : Nat) (h : Heap) (b : Builtin) (ts : List TypeId) (args : List AV) : Option OpR :=
  match b, ts, args with
  | .len, t :: _, x :: _ =>
    match E.ty t, x with
    | some ⟨.slice _, _, _, _, _⟩, .sl _ xs _ => some (.val (.int .i64 xs.length) h)
    | some ⟨.slice _, _, _, _, _⟩, .ref _ _ len _ => some (.val (.int .i64 len) h)
    | some ⟨.str, _, _, _, _⟩, .str l => some (.val (.int .i64 l.length) h)
    | some ⟨.arr n _, _, _, _, _⟩, _ => some (.val (.int .i64 n) h)
    | _, _ => none
  | .cap, t :: _, x :: _ =>
    match E.ty t, x with
    | some ⟨.slice _, _, _, _, _⟩, .sl _ xs (some c) => some (.val (.int .i64 c) h)
    | some ⟨.slice _, _, _, _, _⟩, .ref _ _ _ (some c) => some (.val (.int .i64 c) h)
    | _, _ => none
  | .append, t :: t2 :: _, s :: x :: _ =>
    match E.ty t2 with
    | some ⟨.slice _, _, _, _, _⟩ | some ⟨.str, _, _, _, _⟩ => appendA E lvl slot h t s x
    | _ => none
  | .copy, t :: _, d :: s :: _ => copyA E h t d s
  | .min, _, [.int k a, .int k' b] => if k = k' then some (.val (.int k (if b < a then b else a)) h) else none
  | .max, _, [.int k a, .int k' b] => if k = k' then some (.val (.int k (if b > a then b else a)) h) else none
  | _, _, _ => none

def cmpI : List Int → List Int → Int
  | [], [] => 0
  | [], _ :: _ => -1
  | _ :: _, [] => 1
  | a :: x, b :: y => if a = b then cmpI x y else if a < b then -1 else 1
def extA : List AV → Option AV
  | [.sl _ xs _, .sl _ ys _] => match convA.go xs, convA.go ys with
    | some a, some b => some (.int .i64 (cmpI a b))
    | _, _ => none
  | _ => none
def callA (E : Env) (g : FuncId) (args : List AV) (h : Heap) : Option OpR :=
  if E.ext g then (extA args).map fun v => .val v h else some (.call g args)

abbrev fz : Array Edge := #[default]
def frzO (o : Oper) : Bool := !o.after.toList.isEmpty
def frzV : OpR → Option OpR
  | .val (.ref k 0 len none) h =>
    match lookK h k with
    | some o => if o.live = true ∧ AV.pureL o.cells = true ∧ len * o.esz ≤ o.cells.length ∧ (o.eagg = false → o.esz = 1) then
        some (.val (.sl false (chunk o.eagg o.esz len (o.cells.take (len * o.esz))) none) (setK h k { o with mt := false })) else none
    | none => none
  | r => some r
def frzB (f : Bool) (r : Option OpR) : Option OpR := if f then r.bind frzV else r
def aOp (E : Env) (lvl : Nat) (t : Fr) (h : Heap) (o : Oper) : Option OpR :=
  match o.op with
  | .move x | .assign x => (opd E t x).map fun v => .val v h
  | .pick c a b =>
    match opd E t c with
    | some (.bool r) => (opd E t (if r then a else b)).map fun v => .val v h
    | _ => none
  | .alloc e =>
    match E.ty e with
    | some τ => let (h', k') := newK h lvl (o.dst.getD 0) τ.zero true 1 false
                some (.val (.ptr k' 0) h')
    | none => none
  | .box e x =>
    match E.ty e, opd E t x with
    | some τ, some a => if a.cells.all AV.scal then (let (h', k') := newK h lvl (o.dst.getD 0) a.cells true 1 false
                                                     some (.val (.ptr k' 0) h')) else none
    | _, _ => none
  | .build ty parts =>
    match E.ty ty, opdL E t (parts.toList.map (·.2)) with
    | some ⟨.strct fs, _, _, zero, _⟩, some vs =>
      if fs.all (fun p => (E.ty p.2).isSome) = false then none else
      (fillA (fun i => match fs[i]? with
        | some (off, ft) => (E.ty ft).map fun τ => (off, τ.size)
        | none => none) zero ((parts.toList.map (·.1)).zip vs)).map fun cs => .val (.agg cs) h
    | some ⟨.arr _ e, _, _, zero, _⟩, some vs =>
      match E.ty e with
      | some τ => (fillA (fun i => some (i * τ.size, τ.size)) zero ((parts.toList.map (·.1)).zip vs)).map fun cs => .val (.agg cs) h
      | none => none
    | _, _ => none
  | .buildSlice ty len parts =>
    match E.ty ty, opdL E t (parts.toList.map (·.2)) with
    | some ⟨.slice e, _, _, _, _⟩, some vs =>
      match E.ty e with
      | some τ =>
        if len * τ.size ≤ 16777216 ∧ τ.zero.length = τ.size ∧ 0 < τ.size ∧ (τ.size = 1 ∨ τ.d.isAgg = true) then
          match fillA (fun i => some (i * τ.size, τ.size)) ((List.replicate len τ.zero).flatten) ((parts.toList.map (·.1)).zip vs) with
          | some cs =>
            if frzO o = true ∧ AV.pureL cs = true ∧ len * τ.size ≤ cs.length then
              let (h', k') := newK h lvl (o.dst.getD 0) cs true τ.size τ.d.isAgg
              some (.val (.sl false (chunk τ.d.isAgg τ.size len (cs.take (len * τ.size))) (some len)) (setK h' k' ⟨cs, true, false, true, τ.size, τ.d.isAgg⟩))
            else let (h', k') := newK h lvl (o.dst.getD 0) cs true τ.size τ.d.isAgg
                 some (.val (.ref k' 0 len (some len)) h')
          | none => none
        else none
      | none => none
    | _, _ => none
  | .load ty p =>
    match E.ty ty, opd E t p with
    | some τ, some p => match readC h p τ.size with
      | some cs => (τ.mk1 cs).map fun v => .val v h
      | none => none
    | _, _ => none
  | .store ty p x =>
    match E.ty ty, opd E t p, opd E t x with
    | some τ, some (.ptr key off), some v => if v.cells.length = τ.size then (writeC h key off v.cells).map .skip else none
    | _, _, _ => none
  | .nilCheck x =>
    match opd E t x with
    | some (.ptr a b) => some (.val (.ptr a b) h)
    | some (.pel cs) => some (.val (.pel cs) h)
    | some (.fn f a b) => some (.val (.fn f a b) h)
    | _ => none
  | .binOp op ty x y _ =>
    match opd E t x, opd E t y with
    | some a, some b => (binA E op ty a b).map fun v => .val v h
    | _, _ => none
  | .unOp op _ x =>
    match opd E t x with
    | some a => (unA op a).map fun v => .val v h
    | none => none
  | .convert src dst x =>
    match opd E t x with
    | some a =>
      match E.ty src, E.ty dst, a with
      | some _, some ⟨.slice e, _, _, _, _⟩, .str l =>
        match E.ty e with
        | some ⟨.int .u8, 1, 1, _, _⟩ =>
          let (h', k') := newK h lvl (o.dst.getD 0) (l.map (AV.int .u8)) false 1 false
          some (.val (.ref k' 0 l.length none) h')
        | _ => none
      | _, _, _ => (convA E src dst a h).map fun v => .val v h
    | none => none
  | .makeInterface ty x =>
    match E.ty ty, opd E t x with
    | some ⟨.iface _, _, _, _, _⟩, _ => none
    | some _, some v => some (.val (.iface ty v) h)
    | _, _ => none
  | .makeFunc (.func f) first cap =>
    match opdL E t first.toList, opdL E t cap.toList with
    | some a, some b => some (.val (.fn f a b) h)
    | _, _ => none
  | .makeSlice ty l c =>
    match E.ty ty, opd E t l, opd E t c with
    | some ⟨.slice e, _, _, _, _⟩, some (.int .i64 l), some (.int .i64 c) =>
      match E.ty e with
      | some τ =>
        if 0 ≤ l ∧ l ≤ c ∧ c * τ.bytes ≤ 70368744177664 ∧ 0 < τ.bytes ∧ τ.zero.length = τ.size ∧ 0 < τ.size ∧ (τ.size = 1 ∨ τ.d.isAgg = true) then
          if frzO o = true ∧ l = c ∧ AV.pureL ((List.replicate c.toNat τ.zero).flatten) = true then
            let (h', k') := newK h lvl (o.dst.getD 0) ((List.replicate c.toNat τ.zero).flatten) true τ.size τ.d.isAgg
            some (.val (.sl false (chunk τ.d.isAgg τ.size c.toNat (((List.replicate c.toNat τ.zero).flatten).take (c.toNat * τ.size))) (some c.toNat)) (setK h' k' ⟨(List.replicate c.toNat τ.zero).flatten, true, false, true, τ.size, τ.d.isAgg⟩))
          else
          let (h', k') := newK h lvl (o.dst.getD 0) ((List.replicate c.toNat τ.zero).flatten) true τ.size τ.d.isAgg
          some (.val (.ref k' 0 l.toNat (some c.toNat)) h')
        else none
      | none => none
    | _, _, _ => none
  | .slice ty x lo hi mx =>
    match opd E t x, (lo.map (opd E t)).getD (some .nilp), (hi.map (opd E t)).getD (some .nilp), (mx.map (opd E t)).getD (some .nilp) with
    | some a, some l, some hh, some m =>
      (sliceA E ty a (lo.map fun _ => l) (hi.map fun _ => hh) (mx.map fun _ => m) h).map fun v => .val v h
    | _, _, _, _ => none
  | .fieldAddr ty x f =>
    match opd E t x with
    | some a => (fieldAddrA E ty a f).map fun v => .val v h
    | none => none
  | .field ty x f =>
    match opd E t x with
    | some a => (fieldA E ty a f).map fun v => .val v h
    | none => none
  | .indexAddr ty x i =>
    match opd E t x, opd E t i with
    | some a, some b => (indexAddrA E ty a b h).map fun v => .val v h
    | _, _ => none
  | .index ty x i =>
    match opd E t x, opd E t i with
    | some a, some b => (indexA E ty a b).map fun v => .val v h
    | _, _ => none
  | .extract x i =>
    match opd E t x with
    | some (.tup vs) => (vs[i]?).map fun v => .val v h
    | _ => none
  | .call c =>
    match c.callee, opdL E t c.args.toList with
    | .value f, some args =>
      match opd E t f with
      | some (.fn g first cap) => callA E g (first ++ args ++ cap) h
      | _ => none
    | .builtin b, some args => frzB (frzO o) (builtinA E lvl (o.dst.getD 0) h b c.argTypes.toList args)
    | _, _ => none
  | .typeAssert x _ u true =>
    match E.ty u, opd E t x with
    | some ⟨.iface _, _, _, _, _⟩, _ => none
    | some _, some (.iface ty v) => if ty = u then some (.val (.tup [v, .bool true]) h) else none
    | _, _ => none
  | .panic x =>
    match opd E t x with
    | some (.iface ty v) => some (.panic (.iface ty v))
    | _ => none
  | _ => none

inductive AExit where
  | normal
  | exit (id : Nat)
  | ret
  | panic (chain : List AV)

structure St where
  t : Fr
  h : Heap

inductive ARes where
  | ret (v : AV)
  | panic (chain : List AV)

abbrev CallF := Nat → FuncId → List AV → Heap → Option (ARes × Heap)

def wantedA (t : Fr) (o : Oper) : Option Bool :=
  match o.guard with
  | none => some true
  | some (d, want) => match lookT t d with
    | some (.bool b) => some (b == want)
    | some _ => some false
    | none => none

def putT (n : Nat) (t : Fr) (d : Option Nat) (v : AV) : Option Fr :=
  match d with
  | none => some t
  | some d => if d < n then some ((d, v) :: t) else none

def aOps (E : Env) (call : CallF) (lvl n : Nat) : List Oper → St → Option (AExit × St)
  | [], s => some (.normal, s)
  | o :: r, s =>
    match wantedA s.t o with
    | none => none
    | some false => (putT n s.t o.dst (.tup [])).bind fun t => aOps E call lvl n r ⟨t, s.h⟩
    | some true =>
      match aOp E lvl s.t s.h o with
      | some (.val v h) => (putT n s.t o.dst v).bind fun t => aOps E call lvl n r ⟨t, h⟩
      | some (.skip h) => (putT n s.t o.dst (.tup [])).bind fun t => aOps E call lvl n r ⟨t, h⟩
      | some (.panic v) => some (.panic [v], s)
      | some (.call f args) =>
        match call (o.dst.getD 0) f args s.h with
        | some (.ret v, h) => (putT n s.t o.dst v).bind fun t => aOps E call lvl n r ⟨t, h⟩
        | some (.panic ch, h) => some (.panic ch, ⟨s.t, h⟩)
        | none => none
      | none => none

def firstReg : Code → Option Nat
  | .region id _ _ => some id
  | .seq a b => (firstReg a).orElse fun _ => firstReg b
  | .block _ b | .loop b | .scope b => firstReg b
  | .cond _ a _ => firstReg a
  | _ => none

def aLoop (f : St → Option (AExit × St)) (clean : St → St) : Nat → St → Option (AExit × St)
  | 0, _ => none
  | n + 1, s => match f (clean s) with
    | some (.normal, s') => aLoop f clean n s'
    | r => r

def keysT : Fr → List Key
  | [] => []
  | (_, v) :: r => v.keys ++ keysT r
def reach (h : Heap) : Nat → List Key → List Key
  | 0, ks => ks
  | n + 1, ks => reach h n (ks ++ ks.flatMap fun k => match lookK h k with | some o => if o.live then AV.keysL o.cells else [] | none => [])
def inKs (ks : List Key) (k : Key) : Bool := ks.any fun q => decide (q = k)
def keepK (lvl : Nat) (ks : List Key) (k : Key) : Bool := decide (k.1 < lvl) || inKs ks k
def gcH (lvl : Nat) (t : Fr) (h : Heap) : Heap :=
  match h with
  | [] => []
  | p :: r =>
    let ks := reach (p :: r) 2 (keysT t)
    let h' := (p :: r).filter fun p => keepK lvl ks p.1
    if h'.all (fun p => (AV.keysL p.2.cells).all (keepK lvl ks)) then h' else p :: r

def cleanS (lvl : Nat) (ks : Option (List Nat)) (s : St) : St :=
  match ks with
  | some ks => let t := keepT s.t ks
               ⟨t, gcH lvl t s.h⟩
  | none => s

def opVals (E : Env) (t : Fr) (o : Oper) : List AV := o.op.operands.toList.filterMap (opd E t)
def keysOp (E : Env) (t : Fr) (o : Oper) : List Key := AV.keysL (opVals E t o)
def footL (E : Env) (call : CallF) (lvl n : Nat) : List Oper → St → Option (List (List Key))
  | [], _ => some []
  | o :: r, s => match aOps E call lvl n [o] s with
    | some (.normal, s1) => (footL E call lvl n r s1).map (keysOp E s.t o :: ·)
    | _ => none
def disjK (a b : List Key) : Bool := a.all fun k => !inKs b k
def dynOK (fs : List (List Key)) : List (Nat × Nat) → Bool
  | [] => true
  | (i, j) :: r => (match fs[i]?, fs[j]? with
    | some a, some b => disjK a b
    | _, _ => false) && dynOK fs r
def dynChk (E : Env) (call : CallF) (lvl n : Nat) (ops : List Oper) (s : St) : List (Nat × Nat) → Bool
  | [] => true
  | p :: r => match footL E call lvl n ops s with
    | some fs => dynOK fs (p :: r)
    | none => false

def barOf (draw : Bool) : List (Nat × Nat) → Option Nat
  | [(i, j)] => if draw = true ∧ i = j then some i else none
  | _ => none
def bindS (x : Option (AExit × St)) (f : St → Option (AExit × St)) : Option (AExit × St) :=
  match x with
  | some (.normal, s) => f s
  | _ => none
def barX (E : Env) (call sc : CallF) (lvl n : Nat) (ops : List Oper) (c : Nat) (s : St) : Option (AExit × St) :=
  bindS (aOps E sc lvl n (ops.take c) s) fun s1 => bindS (aOps E call lvl n ((ops.drop c).take 1) s1) fun s2 => bindS (aOps E sc lvl n (ops.drop (c + 1)) s2) fun s3 => some (.normal, s3)

def aCode (E : Env) (call sc : CallF) (fuel lvl : Nat) (fn : AFn) : Code → St → Option (AExit × St)
  | .skip, s => some (.normal, s)
  | .region id ops draw, s =>
    match barOf draw (fn.dyn id) with
    | some c => bindS (barX E call sc lvl fn.ntmps ops.toList c s) fun s' => some (.normal, cleanS lvl (fn.keep id) s')
    | none =>
      match aOps E (if draw then sc else call) lvl fn.ntmps ops.toList s with
      | some (.normal, s') => if draw && !dynChk E sc lvl fn.ntmps ops.toList s (fn.dyn id) then none else some (.normal, cleanS lvl (fn.keep id) s')
      | r => if draw then none else r
  | .seq a b, s => match aCode E call sc fuel lvl fn a s with
    | some (.normal, s') => aCode E call sc fuel lvl fn b s'
    | r => r
  | .cond c a b, s => match opd E s.t c with
    | some (.bool r) => if r then aCode E call sc fuel lvl fn a s else aCode E call sc fuel lvl fn b s
    | _ => none
  | .block id b, s => match aCode E call sc fuel lvl fn b s with
    | some (.exit id', s') => if id' = id then some (.normal, s') else some (.exit id', s')
    | r => r
  | .loop b, s => aLoop (aCode E call sc fuel lvl fn b) (cleanS lvl ((firstReg b).bind fn.head)) fuel s
  | .exit id, s => some (.exit id, s)
  | .ret, s => some (.ret, s)
  | _, _ => none

def aCodes (E : Env) (call sc : CallF) (fuel lvl : Nat) (fn : AFn) : List Code → St → Option (AExit × St)
  | [], s => some (.normal, s)
  | c :: r, s => match aCode E call sc fuel lvl fn c s with
    | some (.normal, s') => aCodes E call sc fuel lvl fn r s'
    | q => q

def resA (E : Env) (t : Fr) (h : Heap) : ResultVar → Option AV
  | .tmp i => lookT t i
  | .cell a ty => match lookT t a, E.ty ty with
    | some p, some τ => (readC h p τ.size).bind τ.mk1
    | _, _ => none
def resL (E : Env) (t : Fr) (h : Heap) : List ResultVar → Option (List AV)
  | [] => some []
  | r :: l => match resA E t h r, resL E t h l with
    | some v, some vs => some (v :: vs)
    | _, _ => none
def results1 : List AV → AV
  | [v] => v
  | vs => .tup vs

def frame0 (args : List AV) : Nat → Fr
  | i => match args with
    | [] => []
    | v :: r => (i, v) :: frame0 r (i + 1)

def finA (E : Env) (fn : AFn) : Option (AExit × St) → Option (ARes × Heap)
  | some (.normal, s) | some (.ret, s) =>
    match resL E s.t s.h fn.results with
    | some vs => some (.ret (results1 vs), s.h)
    | none => none
  | some (.panic ch, s) => some (.panic ch, s.h)
  | _ => none

abbrev RunF := FuncId → List AV → Heap → Option (ARes × Heap)

def sealR (h1 : Heap) : Option (ARes × Heap) → Option (ARes × Heap)
  | some (.ret v, hf) => match sealA 20 hf v with
    | some (v', _) => if v'.pure then some (.ret v', h1) else none
    | none => none
  | some (.panic ch, _) => if AV.pureL ch then some (.panic ch, h1) else none
  | none => none
def sealed (run : RunF) : CallF := fun _ f args h =>
  match sealLW (sealA 20) h args with
  | some (args', h1) => if AV.pureL args' then sealR h1 (run f args' []) else none
  | none => none

def flatV : AV → Bool
  | .int .. | .bool _ | .str _ | .nilp | .nilf | .nili => true
  | _ => false
def flatR : AV → Bool
  | .agg cs => cs.all flatV
  | .tup cs => cs.all flatV
  | v => flatV v
def pureKs (h : Heap) : List Key → Bool
  | [] => true
  | k :: r => (match lookK h k with
    | some o => AV.pureL o.cells
    | none => false) && pureKs h r
def lookR (h : Heap) : Option (ARes × Heap) → Option (ARes × Heap)
  | some (.ret v, _) => if flatR v then some (.ret v, h) else none
  | _ => none
def dcall (run : RunF) : CallF := fun _ f args h =>
  if AV.pureL args then sealed run 0 f args h else
  match sealLW (sealA 20) h args with
  | some (args', _) => if AV.pureL args' = true ∧ pureKs h (AV.keysL args) = true then lookR h (sealed run 0 f args' h) else none
  | none => none

def dd : List Key → List Key
  | [] => []
  | k :: r => k :: (dd r).filter fun q => !decide (q = k)
def posK : List Key → Key → Option Nat
  | [], _ => none
  | k :: r, q => if k = q then some 0 else (posK r q).map (· + 1)
def inK (ks : List Key) (k : Key) : Key := match posK ks k with | some i => (0, 0, i) | none => k
def outK (ks ns : List Key) (slot G : Nat) (k : Key) : Key :=
  if k.1 = 0 then (ks[k.2.2]?).getD k else match posK ns k with | some j => (1, slot, G + j) | none => k
def lendH (h : Heap) (φ : Key → Key) : List Key → Option Heap
  | [] => some []
  | k :: r => match lookK h k, lendH h φ r with
    | some o, some l => some ((φ k, { o with cells := AV.rnL φ o.cells }) :: l)
    | _, _ => none
def closedH (h : Heap) (all : List Key) : List Key → Bool
  | [] => true
  | k :: r => (match lookK h k with
    | some o => (AV.keysL o.cells).all (inKs all)
    | none => false) && closedH h all r
def putAll (h2 : Heap) (ψ : Key → Key) : List Key → Heap → Heap
  | [], h => h
  | k :: r, h => putAll h2 ψ r (match lookK h2 k with
    | some o => setK h (ψ k) { o with cells := AV.rnL ψ o.cells }
    | none => h)
def lentKs (n : Nat) : List Key := (List.range n).map fun i => (0, 0, i)
def okK (n : Nat) (k : Key) : Bool := if k.1 = 0 then decide (k.2.1 = 0 ∧ k.2.2 < n) else true
def backA (ks : List Key) (slot : Nat) (h1 h2 : Heap) (vs : List AV) (all : List Key) : Option (List AV × Heap) :=
  if closedH h2 all all = true ∧ all.all (okK ks.length) = true ∧ (AV.keysL vs).all (inKs all) = true ∧ (lentKs ks.length).all (inKs all) = true then
    some (AV.rnL (outK ks (all.filter fun k => !decide (k.1 = 0)) slot (genOf h1 1 slot)) vs, putAll h2 (outK ks (all.filter fun k => !decide (k.1 = 0)) slot (genOf h1 1 slot)) all h1)
  else none
def back (ks : List Key) (slot : Nat) (h1 h2 : Heap) (vs : List AV) : Option (List AV × Heap) :=
  backA ks slot h1 h2 vs (dd (reach h2 3 (lentKs ks.length ++ AV.keysL vs)))
def backV (ks : List Key) (slot : Nat) (h1 h2 : Heap) (v : AV) : Option (ARes × Heap) :=
  match back ks slot h1 h2 [v] with
  | some ([v'], h') => some (.ret v', h')
  | _ => none
def backR (ks : List Key) (slot : Nat) (h1 : Heap) (sr : Bool) : Option (ARes × Heap) → Option (ARes × Heap)
  | some (.ret v, hf) =>
    if sr then (match sealA 20 hf v with
      | some (v', h2) => backV ks slot h1 h2 v'
      | none => none)
    else backV ks slot h1 hf v
  | some (.panic ch, hf) =>
    if AV.pureL ch then (match back ks slot h1 hf [] with
      | some (_, h') => some (.panic ch, h')
      | none => none)
    else none
  | none => none
def sealM (f : Heap → AV → Option (AV × Heap)) : List Bool → Heap → List AV → Option (List AV × Heap)
  | _, h, [] => some ([], h)
  | true :: m, h, x :: r => match sealM f m h r with
    | some (l, h') => some (x :: l, h')
    | none => none
  | false :: m, h, x :: r => match f h x with
    | some (y, h1) => match sealM f m h1 r with
      | some (l, h') => some (y :: l, h')
      | none => none
    | none => none
  | [], h, x :: r => sealLW f h (x :: r)
def lendA (ks : List Key) (slot : Nat) (h1 : Heap) (args : List AV) (sr : Bool) (run : List AV → Heap → Option (ARes × Heap)) : Option (ARes × Heap) :=
  match lendH h1 (inK ks) ks with
  | some hl => if closedH h1 ks ks = true ∧ (AV.keysL args).all (inKs ks) = true then backR ks slot h1 sr (run (AV.rnL (inK ks) args) hl) else none
  | none => none
def opened (m : List Bool) (sr : Bool) (run : RunF) : CallF := fun slot f args h =>
  match sealM (sealA 20) m h args with
  | some (args', h1) => lendA (dd (reach h1 3 (AV.keysL args'))) slot h1 args' sr (run f)
  | none => none
def site (fn : AFn) (run : RunF) : CallF := fun slot f args h =>
  match fn.opn f with
  | none => sealed run slot f args h
  | some (m, sr) => opened m sr run slot f args h

def dfrA (E : Env) (run : RunF) (n : Nat) (gd : Grd) (v : AV) (cv : List AV) (h : Heap) : Option (ARes × Heap) :=
  lendA (dd (reach h 3 (AV.keysL cv))) 0 h cv false fun cv' hl =>
    if gd.gfn.results = [] ∧ cv'.length ≤ gd.gfn.ntmps ∧ gd.rs.all (fun r => decide (r < gd.gfn.ntmps)) = true then
    (match aCodes E (site gd.gfn run) (dcall run) n 1 gd.gfn gd.gpost ⟨gd.rs.map (fun r => (r, v)) ++ frame0 cv' 0, hl⟩ with
    | some (.normal, s) | some (.ret, s) => some (.ret (.tup []), s.h)
    | _ => none) else none
def grdE (E : Env) (fn : AFn) (t : Fr) : Option (ARes × Heap) → Option (ARes × Heap)
  | some (.ret _, h) => finA E fn (some (.ret, ⟨t, h⟩))
  | _ => none
def grdR (E : Env) (run : RunF) (n : Nat) (fn : AFn) (gd : Grd) (cv : List AV) : Option (AExit × St) → Option (ARes × Heap)
  | some (.normal, s) | some (.ret, s) => grdE E fn s.t (dfrA E run n gd .nili cv s.h)
  | some (.panic [v], s) => if v.pure then grdE E fn s.t (dfrA E run n gd v cv s.h) else none
  | _ => none
def grdP (E : Env) (run : RunF) (n : Nat) (fn : AFn) (gd : Grd) : Option (AExit × St) → Option (ARes × Heap)
  | some (.normal, s) =>
    match opdL E s.t (gd.caps.map Operand.tmp) with
    | some cv => match putT fn.ntmps s.t (some gd.t) (.fn gd.g [] cv) with
      | some t => if (AV.keysL cv).all (fun k => decide (k.1 < 2)) = true then grdR E run n fn gd cv (aCodes E (site fn run) (dcall run) n 2 fn gd.post ⟨t, s.h⟩) else none
      | none => none
    | none => none
  | some (.ret, s) => finA E fn (some (.ret, s))
  | some (.panic ch, s) => finA E fn (some (.panic ch, s))
  | _ => none

def aRun (E : Env) : Nat → RunF
  | 0 => fun _ _ _ => none
  | n + 1 => fun f args h =>
    match E.prim f with
    | some p => if AV.pureL args then (p args).bind fun v => if v.pure then some (.ret v, h) else none else none
    | none =>
      match E.fn f with
      | none => none
      | some fn =>
        if args.length ≤ fn.ntmps then
          match E.grd f with
          | none => finA E fn (aCode E (site fn (aRun E n)) (dcall (aRun E n)) n 1 fn fn.body ⟨frame0 args 0, h⟩)
          | some gd => grdP E (aRun E n) n fn gd (aCodes E (site fn (aRun E n)) (dcall (aRun E n)) n 1 fn gd.pre ⟨frame0 args 0, h⟩)
        else none
def aCall (E : Env) (n : Nat) : CallF := sealed (aRun E n)

def getT {α} : List (Option α) → Nat → Option α
  | [], _ => none
  | x :: _, 0 => x
  | _ :: r, i + 1 => getT r i

theorem frzB_some {f : Bool} {x : Option OpR} {r : OpR} (h : frzB f x = some r) : ∃ r0, x = some r0 ∧ ((r = r0 ∧ (f = false ∨ frzV r0 = some r0)) ∨ (f = true ∧ ∃ k len ob h', r0 = .val (.ref k 0 len none) h' ∧ lookK h' k = some ob ∧ ob.live = true ∧ AV.pureL ob.cells = true ∧ len * ob.esz ≤ ob.cells.length ∧ (ob.eagg = false → ob.esz = 1) ∧
    r = .val (.sl false (chunk ob.eagg ob.esz len (ob.cells.take (len * ob.esz))) none) (setK h' k { ob with mt := false }))) := by
  unfold frzB at h
  split at h
  · rename_i hf
    cases x with
    | none => cases h
    | some r0 =>
      simp only [Option.bind_some] at h
      refine ⟨r0, rfl, ?_⟩
      by_cases q : frzV r0 = some r0
      · rw [q] at h; cases h; exact .inl ⟨rfl, .inr q⟩
      · right
        refine ⟨hf, ?_⟩
        unfold frzV at h
        split at h
        · rename_i k len hh
          split at h
          · rename_i ob ho
            split at h
            · rename_i hc; cases h; exact ⟨k, len, ob, hh, rfl, ho, hc.1, hc.2.1, hc.2.2.1, hc.2.2.2, rfl⟩
            · cases h
          · cases h
        · rename_i hn
          exfalso; apply q
          unfold frzV
          split
          · rename_i k len hh; exact absurd rfl (hn k len hh)
          · rfl
  · rename_i hf
    exact ⟨r, h, .inl ⟨rfl, .inl (by simpa using hf)⟩⟩
end Ab
