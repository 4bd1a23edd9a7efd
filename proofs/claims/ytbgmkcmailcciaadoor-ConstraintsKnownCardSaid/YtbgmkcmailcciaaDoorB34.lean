/- A row of bytes, handed over. Own work, no conditions. -/
import Derived.Test.YtbgmkcmailcciaaDoorB33
set_option linter.unusedVariables false
set_option linter.unusedSimpArgs false
namespace Ab
open Go
theorem chunk_one : ∀ (l : List AV), chunk false 1 l.length l = l
  | [] => rfl
  | x :: r => by
    simp only [List.length_cons, chunk, Bool.false_eq_true, if_false, List.head?_cons, Option.getD_some, List.drop_succ_cons, List.drop_zero]
    rw [chunk_one r]
theorem seal_bytes {n : Nat} {h : Heap} {key : Key} {off len : Nat} {cap : Option Nat} {o : AObj} {ys : List Int} (hk : lookK h key = some o) (hl : o.live = true) (he : o.esz = 1) (ha : o.eagg = false) (hlen : off + len ≤ o.cells.length) (hc : (o.cells.drop off).take len = bs ys) :
    sealA (n + 2) h (.ref key off len cap) = some (.sl false (bs ys) cap, setK h key { o with mt := false }) := by
  unfold sealA
  have hp : (AV.ref key off len cap).pure = false := rfl
  simp only [hp, Bool.false_eq_true, if_false, hk, hl, he, Nat.mul_one, hlen, true_and, implies_true, if_true, hc]
  rw [sealL_of_pure n _ _ (bs_pure ys)]
  simp only [ha]
  have hlen2 : len = (bs ys).length := by
    rw [← hc, List.length_take, List.length_drop]; omega
  rw [hlen2, chunk_one]
end Ab
