/- The evaluator: own work, no conditions. -/
import Derived.Test.YtbiildmljbcmeaaDoorB40e
/- Bits put together, for simp. Own work, no conditions. -/
set_option linter.unusedVariables false
set_option linter.unusedSimpArgs false
namespace Ab
open Go
theorem or_nat (m b i:Nat) (hb:b < 2 ^ i):(2 ^ i * m) ||| b=2 ^ i * m + b:=by
  have:=Nat.shiftLeft_add_eq_or_of_lt hb m
  rw [Nat.shiftLeft_eq,Nat.mul_comm m] at this
  exact this.symm
theorem bv_nat (n:Nat) (h:n < 2 ^ 64):(BitVec.ofInt 64 (n:Int)).toNat=n:=by
  rw [BitVec.toNat_ofInt]
  omega
theorem or_i64 (a b i m:Nat) (ha:a=2 ^ i * m) (hb:b < 2 ^ i) (hs:a + b < 2 ^ 63):IntKind.i64.wrap ((BitVec.ofInt 64 (a:Int) ||| BitVec.ofInt 64 (b:Int)).toNat:Nat)=(a + b:Nat):=by
  have h1:(BitVec.ofInt 64 (a:Int) ||| BitVec.ofInt 64 (b:Int)).toNat=a + b:=by
    rw [BitVec.toNat_or,bv_nat a (by omega),bv_nat b (by omega),ha,or_nat m b i hb]
  rw [h1]
  exact w_i64 _ (by omega) (by omega)
def or64 (a b:Int):Int:=IntKind.i64.wrap ((BitVec.ofInt 64 a ||| BitVec.ofInt 64 b).toNat:Nat)
theorem i_or (a b:Int):intOp .or .i64 a b=some (.int .i64 (or64 a b)):=rfl
theorem or_three (x y z:Int) (x0:0 ≤ x) (x1:x < 256) (y0:0 ≤ y) (y1:y < 256) (z0:0 ≤ z) (z1:z < 256) :
    or64 (x * 65536) (y * 256)=x * 65536 + y * 256 ∧ or64 (x * 65536 + y * 256) z=x * 65536 + y * 256 + z:=by
  obtain ⟨a,rfl⟩:=Int.eq_ofNat_of_zero_le x0
  obtain ⟨b,rfl⟩:=Int.eq_ofNat_of_zero_le y0
  obtain ⟨c,rfl⟩:=Int.eq_ofNat_of_zero_le z0
  constructor
  · have:=or_i64 (a * 65536) (b * 256) 16 a (by omega) (by omega) (by omega)
    simpa [or64] using this
  · have:=or_i64 (a * 65536 + b * 256) c 8 (a * 256 + b) (by omega) (by omega) (by omega)
    simpa [or64] using this
theorem or64_zero:or64 0 0=0:=by decide
end Ab
