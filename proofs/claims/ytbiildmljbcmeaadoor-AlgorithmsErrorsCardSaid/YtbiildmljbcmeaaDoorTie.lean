/-
  DERIVED. GIVEN WITH THE SEED: THE PROGRAM's TIES (one call each: nine closed facts by the kernel) AND EACH ROW's TIE, after the 31st guide's Derived/Test/Toyas{Tie, Card}.lean. No idea stands in it: it is a product of the set-up. Laid BY PROGRAM, IN A SANDBOX (cutbox-door.mjs). By AI agents, Wed Nov 11 2026. No macro, syntax, notation, axiom, sorry.
-/
import Derived.Test.YtbiildmljbcmeaaDoorRows
import Derived.LaidByTextLater
import Derived.SevenTiedAt
import Derived.LaidSub
import Derived.LaidOnce
namespace Go.Proofs.YtbiildmljbcmeaaDoor
open Go
set_option maxRecDepth 100000
theorem seatTie1 : Tryd.prog.laidByTextLater [("vidimus/algorithms.sequence", Rows.laid_vidimus_algorithms_sequence), ("vidimus/algorithms.oid", Rows.laid_vidimus_algorithms_oid), ("vidimus/algorithms.bits", Rows.laid_vidimus_algorithms_bits), ("vidimus/constraints.sequence", Rows.laid_vidimus_constraints_sequence), ("vidimus/constraints.integer", Rows.laid_vidimus_constraints_integer), ("vidimus/mappings.sequence", Rows.laid_vidimus_mappings_sequence), ("vidimus/mappings.oid", Rows.laid_vidimus_mappings_oid)] [.data, .data, .data, .data, .data, .data, .data] true :=
  Program.laidByTextLater_by_one 44 8 4 (by kernel_rfl) (by kernel_rfl) (by kernel_rfl) (by kernel_rfl) (by kernel_rfl) (by kernel_rfl) (fun _ _ => by kernel_rfl)
theorem noOwnUnsafe : Tryd.pinned.checked.prog.headLifts.contains "ownunsafe" = false := by kernel_rfl
theorem tie : Tryd.prog.laidByTextLater [("vidimus/algorithms.sequence", Rows.laid_vidimus_algorithms_sequence), ("vidimus/algorithms.oid", Rows.laid_vidimus_algorithms_oid)] [.data, .data] true :=
  Program.laidByTextLater.sub seatTie1 ["vidimus/algorithms.sequence", "vidimus/algorithms.oid"] (by kernel_rfl) (by kernel_rfl)
theorem algorithmsOf_row_tie : Rows.algorithmsOfRow.laidByTextAt .later Tryd.pinned [.data, .data] true :=
  OpenClaim.laidByTextAt_later rfl rfl tie noOwnUnsafe
theorem algorithmsErrors_row_tie : Rows.algorithmsErrorsRow.laidByTextAt .later Tryd.pinned [.data, .data] true :=
  OpenClaim.laidByTextAt_later rfl rfl tie noOwnUnsafe
theorem algorithmsSame_row_tie : Rows.algorithmsSameRow.laidByTextAt .later Tryd.pinned [.data, .data] true :=
  OpenClaim.laidByTextAt_later rfl rfl tie noOwnUnsafe
theorem tie2 : Tryd.prog.laidByTextLater [("vidimus/algorithms.sequence", Rows.laid_vidimus_algorithms_sequence), ("vidimus/algorithms.oid", Rows.laid_vidimus_algorithms_oid), ("vidimus/algorithms.bits", Rows.laid_vidimus_algorithms_bits)] [.data, .data, .data] true :=
  Program.laidByTextLater.sub seatTie1 ["vidimus/algorithms.sequence", "vidimus/algorithms.oid", "vidimus/algorithms.bits"] (by kernel_rfl) (by kernel_rfl)
theorem algorithmsKeys_row_tie : Rows.algorithmsKeysRow.laidByTextAt .later Tryd.pinned [.data, .data, .data] true :=
  OpenClaim.laidByTextAt_later rfl rfl tie2 noOwnUnsafe
theorem algorithmsBack_row_tie : Rows.algorithmsBackRow.laidByTextAt .later Tryd.pinned [.data, .data, .data] true :=
  OpenClaim.laidByTextAt_later rfl rfl tie2 noOwnUnsafe
theorem algorithmsKnown_row_tie : Rows.algorithmsKnownRow.laidByTextAt .later Tryd.pinned [.data, .data, .data] true :=
  OpenClaim.laidByTextAt_later rfl rfl tie2 noOwnUnsafe
theorem tie3 : Tryd.prog.laidByTextLater [("vidimus/constraints.sequence", Rows.laid_vidimus_constraints_sequence), ("vidimus/constraints.integer", Rows.laid_vidimus_constraints_integer)] [.data, .data] true :=
  Program.laidByTextLater.sub seatTie1 ["vidimus/constraints.sequence", "vidimus/constraints.integer"] (by kernel_rfl) (by kernel_rfl)
theorem constraintsOf_row_tie : Rows.constraintsOfRow.laidByTextAt .later Tryd.pinned [.data, .data] true :=
  OpenClaim.laidByTextAt_later rfl rfl tie3 noOwnUnsafe
theorem constraintsGet_row_tie : Rows.constraintsGetRow.laidByTextAt .later Tryd.pinned [.data, .data] true :=
  OpenClaim.laidByTextAt_later rfl rfl tie3 noOwnUnsafe
theorem tie4 : Tryd.prog.laidByTextLater [("vidimus/mappings.sequence", Rows.laid_vidimus_mappings_sequence), ("vidimus/mappings.oid", Rows.laid_vidimus_mappings_oid)] [.data, .data] true :=
  Program.laidByTextLater.sub seatTie1 ["vidimus/mappings.sequence", "vidimus/mappings.oid"] (by kernel_rfl) (by kernel_rfl)
theorem mappingsGet_row_tie : Rows.mappingsGetRow.laidByTextAt .later Tryd.pinned [.data, .data] true :=
  OpenClaim.laidByTextAt_later rfl rfl tie4 noOwnUnsafe
theorem mappingsTurned_row_tie : Rows.mappingsTurnedRow.laidByTextAt .later Tryd.pinned [.data, .data] true :=
  OpenClaim.laidByTextAt_later rfl rfl tie4 noOwnUnsafe
theorem algorithmsOfUpto_row_tie : Rows.algorithmsOfUptoRow.laidByTextAt .later Tryd.pinned [.data, .data] true :=
  OpenClaim.laidByTextAt_later rfl rfl tie noOwnUnsafe
theorem algorithmsErrorsUpto_row_tie : Rows.algorithmsErrorsUptoRow.laidByTextAt .later Tryd.pinned [.data, .data] true :=
  OpenClaim.laidByTextAt_later rfl rfl tie noOwnUnsafe
theorem algorithmsSameUpto_row_tie : Rows.algorithmsSameUptoRow.laidByTextAt .later Tryd.pinned [.data, .data] true :=
  OpenClaim.laidByTextAt_later rfl rfl tie noOwnUnsafe
theorem algorithmsKeysUpto_row_tie : Rows.algorithmsKeysUptoRow.laidByTextAt .later Tryd.pinned [.data, .data, .data] true :=
  OpenClaim.laidByTextAt_later rfl rfl tie2 noOwnUnsafe
theorem algorithmsBackUpto_row_tie : Rows.algorithmsBackUptoRow.laidByTextAt .later Tryd.pinned [.data, .data, .data] true :=
  OpenClaim.laidByTextAt_later rfl rfl tie2 noOwnUnsafe
theorem algorithmsKnownUpto_row_tie : Rows.algorithmsKnownUptoRow.laidByTextAt .later Tryd.pinned [.data, .data, .data] true :=
  OpenClaim.laidByTextAt_later rfl rfl tie2 noOwnUnsafe
theorem constraintsOfUpto_row_tie : Rows.constraintsOfUptoRow.laidByTextAt .later Tryd.pinned [.data, .data] true :=
  OpenClaim.laidByTextAt_later rfl rfl tie3 noOwnUnsafe
theorem constraintsGetUpto_row_tie : Rows.constraintsGetUptoRow.laidByTextAt .later Tryd.pinned [.data, .data] true :=
  OpenClaim.laidByTextAt_later rfl rfl tie3 noOwnUnsafe
theorem mappingsGetUpto_row_tie : Rows.mappingsGetUptoRow.laidByTextAt .later Tryd.pinned [.data, .data] true :=
  OpenClaim.laidByTextAt_later rfl rfl tie4 noOwnUnsafe
theorem mappingsTurnedUpto_row_tie : Rows.mappingsTurnedUptoRow.laidByTextAt .later Tryd.pinned [.data, .data] true :=
  OpenClaim.laidByTextAt_later rfl rfl tie4 noOwnUnsafe
end Go.Proofs.YtbiildmljbcmeaaDoor
