/- Own work, no conditions. -/
import Derived.Test.YtbiildmljbcmeaaDoorTabE
import Derived.Test.YtbiildmljbcmeaaDoorB40
import Derived.Test.YtbiildmljbcmeaaDoorB18
set_option maxRecDepth 20000
set_option linter.unusedSimpArgs false
set_option linter.unusedVariables false
set_option maxHeartbeats 16000000
section
open Ab Go TabE
namespace Ab
inductive El where
  | mk (c:Int) (k:Bool) (n:Int) (fb:Bool) (b:List Int) (cb:Option Nat) (fs:Bool) (s:List El) (cs:Option Nat)
namespace El
def c:El → Int | mk c _ _ _ _ _ _ _ _ => c
def k:El → Bool | mk _ k _ _ _ _ _ _ _ => k
def n:El → Int | mk _ _ n _ _ _ _ _ _ => n
def fb:El → Bool | mk _ _ _ fb _ _ _ _ _ => fb
def b:El → List Int | mk _ _ _ _ b _ _ _ _ => b
def cb:El → Option Nat | mk _ _ _ _ _ cb _ _ _ => cb
def fs:El → Bool | mk _ _ _ _ _ _ fs _ _ => fs
def s:El → List El | mk _ _ _ _ _ _ _ s _ => s
def cs:El → Option Nat | mk _ _ _ _ _ _ _ _ cs => cs
end El
inductive Cr where
  | mk (c:Int) (k:Bool) (n:Int) (b:List Int) (s:List Cr)
namespace El
mutual
def core:El → Cr
  | mk c k n _ b _ _ s _ => .mk c k n b (cores s)
def cores:List El → List Cr
  | [] => []
  | e :: r => core e :: cores r
end
theorem cores_map:∀ l,cores l=l.map core
  | [] => rfl
  | e :: r => by rw [cores,cores_map r]; rfl
theorem core_eq (e:El):e.core=.mk e.c e.k e.n e.b (cores e.s):=by cases e; rfl
mutual
def ok:El → Prop
  | mk c _ n _ b _ _ s _ => (0 ≤ c ∧ c < 256) ∧ (0 ≤ n ∧ n < 4294967296) ∧ isB b ∧ b.length ≤ 9223372036854775807 ∧ s.length ≤ 9223372036854775807 ∧ oks s
def oks:List El → Prop
  | [] => True
  | e :: r => ok e ∧ oks r
end
theorem oks_all:∀ {l},oks l ↔ ∀ x ∈ l,ok x
  | [] => by simp [oks]
  | e :: r => by rw [oks,oks_all (l:=r)]; simp
theorem ok_eq (e:El):e.ok ↔ (0 ≤ e.c ∧ e.c < 256) ∧ (0 ≤ e.n ∧ e.n < 4294967296) ∧ isB e.b ∧ e.b.length ≤ 9223372036854775807 ∧ e.s.length ≤ 9223372036854775807 ∧ ∀ x ∈ e.s,x.ok:=by
  cases e; rw [ok,oks_all]; rfl
theorem ok.cb {e:El} (h:e.ok):0 ≤ e.c ∧ e.c < 256:=((ok_eq e).1 h).1
theorem ok.sl {e:El} (h:e.ok):e.s.length ≤ 9223372036854775807:=((ok_eq e).1 h).2.2.2.2.1
end El
end Ab
end
section
open Ab Go TabE
namespace Sp
mutual
def chk:Cr → Int → Int → Int → Int × Int × Int
  | .mk c k n b s,d,m,l =>
    if tagE c k n ≠ 0 then (tagE c k n,m,l)
    else if (k=true ∧ b ≠ []) ∨ (k=false ∧ s ≠ []) then (1,m,l)
    else if 16 < d then (12,m,l)
    else if m=8192 then (3,m,l)
    else chks s (d + 1) (m + 1) (max l d)
def chks:List Cr → Int → Int → Int → Int × Int × Int
  | [],_,m,l => (0,m,l)
  | x :: r,d,m,l => if (chk x d m l).1 ≠ 0 then chk x d m l else chks r d (chk x d m l).2.1 (chk x d m l).2.2
end
theorem chk_eq (e:El) (d m l:Int):chk e.core d m l=if tagE e.c e.k e.n ≠ 0 then (tagE e.c e.k e.n,m,l)
    else if (e.k=true ∧ e.b ≠ []) ∨ (e.k=false ∧ e.s ≠ []) then (1,m,l)
    else if 16 < d then (12,m,l)
    else if m=8192 then (3,m,l)
    else chks (El.cores e.s) (d + 1) (m + 1) (max l d):=by
  rw [El.core_eq,chk]
  have:El.cores e.s ≠ [] ↔ e.s ≠ []:=by rw [El.cores_map]; cases e.s <;> simp
  simp only [this]
end Sp
end
