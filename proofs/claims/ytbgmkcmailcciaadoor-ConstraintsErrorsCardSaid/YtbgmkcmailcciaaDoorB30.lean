/- Rows of bytes. Own work, no conditions. -/
import Derived.Test.YtbgmkcmailcciaaDoorB29
set_option linter.unusedVariables false
set_option linter.unusedSimpArgs false
namespace Ab
open Go
/-- A row of bytes. -/
def bs (xs : List Int) : List AV := xs.map (.int .u8)
def isB (xs : List Int) : Prop := ∀ x ∈ xs, 0 ≤ x ∧ x < 256
theorem bs_nil : bs [] = [] := rfl
theorem bs_cons (x r) : bs (x :: r) = .int .u8 x :: bs r := rfl
theorem isB_nil : isB [] := fun x h => by cases h
theorem isB_cons {x r} : isB (x :: r) ↔ (0 ≤ x ∧ x < 256) ∧ isB r := by simp [isB]
theorem bs_append (a b) : bs (a ++ b) = bs a ++ bs b := List.map_append ..
theorem bs_length (xs) : (bs xs).length = xs.length := List.length_map ..
theorem bs_cells : ∀ xs, (bs xs).flatMap AV.cells = bs xs
  | [] => rfl
  | x :: r => by rw [bs_cons, List.flatMap_cons, bs_cells r]; rfl
theorem bs_scal : ∀ xs, (bs xs).all AV.scal = true
  | [] => rfl
  | x :: r => by rw [bs_cons, List.all_cons, bs_scal r]; rfl
theorem bs_pure : ∀ xs, AV.pureL (bs xs) = true
  | [] => rfl
  | x :: r => by rw [bs_cons, AV.pureL, bs_pure r]; rfl
theorem bs_go : ∀ {xs}, isB xs → convA.go (bs xs) = some xs
  | [], _ => rfl
  | x :: r, h => by
    obtain ⟨h1, h2⟩ := isB_cons.1 h
    rw [bs_cons, convA.go, if_pos h1, bs_go h2]; rfl
theorem bs_get (xs : List Int) (i : Nat) : (bs xs)[i]? = (xs[i]?).map (.int .u8) := List.getElem?_map ..
theorem bs_take (xs : List Int) (i : Nat) : (bs xs).take i = bs (xs.take i) := by simp [bs, List.map_take]
theorem bs_drop (xs : List Int) (i : Nat) : (bs xs).drop i = bs (xs.drop i) := by simp [bs, List.map_drop]
theorem bs_all (xs : List Int) : List.take xs.length (bs xs) = bs xs := by rw [← bs_length xs]; exact List.take_length
end Ab
