/- The abstract reading of the loaded code: values, heap of the call's own variables, and an evaluator for them. Own work, no conditions. -/
import Derived.Calls
import Derived.WalkKit
import Derived.Below
set_option linter.unusedVariables false
namespace Ab
open Go

abbrev Key := Nat × Nat × Nat

inductive AV where
  | int (k : IntKind) (n : Int)
  | bool (b : Bool)
  | str (l : List Int)
  | agg (cs : List AV)
  | tup (xs : List AV)
  | sl (isnil : Bool) (xs : List AV) (cap : Option Nat)
  | ref (key : Key) (off len : Nat) (cap : Option Nat)
  | ptr (key : Key) (off : Nat)
  | pel (cs : List AV)
  | nilp
  | fn (f : FuncId) (first cap : List AV)
  | nilf
  | iface (t : TypeId) (v : AV)
  | nili

namespace AV
def scal : AV → Bool
  | .agg _ | .tup _ => false
  | _ => true
def cells : AV → List AV
  | .agg cs => cs
  | v => [v]
mutual
def pure : AV → Bool
  | .agg cs => pureL cs
  | .tup xs => pureL xs
  | .ref .. | .ptr .. => false
  | .fn _ a b => pureL a && pureL b
  | .iface _ v => pure v
  | _ => true
def pureL : List AV → Bool
  | [] => true
  | x :: xs => pure x && pureL xs
end
mutual
def keys : AV → List Key
  | .agg cs => keysL cs
  | .tup xs => keysL xs
  | .ref k _ _ _ => [k]
  | .ptr k _ => [k]
  | .fn _ a b => keysL a ++ keysL b
  | .iface _ v => keys v
  | _ => []
def keysL : List AV → List Key
  | [] => []
  | x :: xs => keys x ++ keysL xs
end
end AV

mutual
def AV.rn (φ : Key → Key) : AV → AV
  | .agg cs => .agg (AV.rnL φ cs)
  | .tup xs => .tup (AV.rnL φ xs)
  | .ref k off len cap => .ref (φ k) off len cap
  | .ptr k off => .ptr (φ k) off
  | .fn f a b => .fn f (AV.rnL φ a) (AV.rnL φ b)
  | .iface t v => .iface t (AV.rn φ v)
  | .int k n => .int k n
  | .bool b => .bool b
  | .str l => .str l
  | .sl f xs cap => .sl f xs cap
  | .pel cs => .pel cs
  | .nilp => .nilp
  | .nilf => .nilf
  | .nili => .nili
def AV.rnL (φ : Key → Key) : List AV → List AV
  | [] => []
  | x :: xs => AV.rn φ x :: AV.rnL φ xs
end

structure AObj where
  cells : List AV
  live : Bool
  mt : Bool
  exact : Bool
  esz : Nat
  eagg : Bool

abbrev Heap := List (Key × AObj)
abbrev Fr := List (Nat × AV)

def lookK : Heap → Key → Option AObj
  | [], _ => none
  | (k, o) :: r, q => if k = q then some o else lookK r q
def setK : Heap → Key → AObj → Heap
  | [], k, o => [(k, o)]
  | (k', o') :: r, k, o => if k' = k then (k, o) :: r else (k', o') :: setK r k o
def lookT : Fr → Nat → Option AV
  | [], _ => none
  | (i, v) :: r, q => if i = q then some v else lookT r q
def genOf : Heap → Nat → Nat → Nat
  | [], _, _ => 0
  | ((l, s, g), _) :: r, lvl, slot => if l = lvl ∧ s = slot then max (g + 1) (genOf r lvl slot) else genOf r lvl slot
def keepT (t : Fr) : List Nat → Fr
  | [] => []
  | i :: r => match lookT t i with
    | some v => (i, v) :: keepT t r
    | none => keepT t r

inductive Ty where
  | int (k : IntKind) | bool | str | slice (e : TypeId) | ptr (e : TypeId) | strct (fs : List (Nat × TypeId)) | arr (n : Nat) (e : TypeId) | func | iface (e : Bool) | other
def Ty.isAgg : Ty → Bool
  | .strct _ | .arr .. => true
  | _ => false
structure TyI where
  d : Ty
  size : Nat
  bytes : Nat
  zero : List AV
  cmp : Bool

structure AFn where
  ntmps : Nat
  results : List ResultVar
  body : Code
  keep : Nat → Option (List Nat)
  head : Nat → Option (List Nat)
  opn : FuncId → Option (List Bool × Bool) := fun _ => none
  dyn : Nat → List (Nat × Nat) := fun _ => []

structure Grd where
  pre : List Code
  t : Nat
  caps : List Nat
  post : List Code
  g : FuncId
  rs : List Nat
  gfn : AFn
  gpost : List Code

structure Env where
  fn : FuncId → Option AFn
  ty : TypeId → Option TyI
  prim : FuncId → Option (List AV → Option AV)
  grd : FuncId → Option Grd := fun _ => none
  ext : FuncId → Bool := fun _ => false
  glob : Nat → Option (List AV)

mutual
def ofV : Value → Option AV
  | .int k n => some (.int k n)
  | .bool b => some (.bool b)
  | .string s => some (.str (s.data.toList.map fun b => (b.toNat : Int)))
  | .slice none 0 0 => some (.sl true [] (some 0))
  | .pointer none => some .nilp
  | .nilFunc => some .nilf
  | .nilIface => some .nili
  | .agg ⟨cs⟩ => (ofVL cs).bind fun l => if l.all AV.scal then some (.agg l) else none
  | .tuple ⟨cs⟩ => (ofVL cs).map .tup
  | _ => none
def ofVL : List Value → Option (List AV)
  | [] => some []
  | v :: r => match ofV v, ofVL r with
    | some x, some l => some (x :: l)
    | _, _ => none
end

def opd (E : Env) (t : Fr) : Operand → Option AV
  | .tmp i => lookT t i
  | .const v => ofV v
  | .func f => some (.fn f [] [])
  | .global g => (E.glob g).map .pel
def opdL (E : Env) (t : Fr) : List Operand → Option (List AV)
  | [] => some []
  | o :: r => match opd E t o, opdL E t r with
    | some v, some l => some (v :: l)
    | _, _ => none

def chunk (agg : Bool) (sz : Nat) : Nat → List AV → List AV
  | 0, _ => []
  | n + 1, cs => (if agg then .agg (cs.take sz) else (cs.head?).getD .nilp) :: chunk agg sz n (cs.drop sz)

def sealLW (f : Heap → AV → Option (AV × Heap)) : Heap → List AV → Option (List AV × Heap)
  | h, [] => some ([], h)
  | h, x :: r => match f h x with
    | some (y, h1) => match sealLW f h1 r with
      | some (l, h2) => some (y :: l, h2)
      | none => none
    | none => none

def sealA : Nat → Heap → AV → Option (AV × Heap)
  | 0, _, _ => none
  | n + 1, h, v =>
    if v.pure then some (v, h) else
    match v with
    | .ref key off len cap =>
      match lookK h key with
      | some o =>
        if o.live = true ∧ off + len * o.esz ≤ o.cells.length ∧ (o.eagg = false → o.esz = 1) then
          match sealLW (sealA n) (setK h key { o with mt := false }) ((o.cells.drop off).take (len * o.esz)) with
          | some (cs, h') => some (.sl false (chunk o.eagg o.esz len cs) cap, h')
          | none => none
        else none
      | none => none
    | .agg cs => match sealLW (sealA n) h cs with
      | some (l, h') => if l.all AV.scal then some (.agg l, h') else none
      | none => none
    | .tup cs => match sealLW (sealA n) h cs with
      | some (l, h') => some (.tup l, h')
      | none => none
    | _ => none

end Ab
