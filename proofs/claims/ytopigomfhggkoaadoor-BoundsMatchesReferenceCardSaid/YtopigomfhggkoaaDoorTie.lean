/-
  DERIVED. GIVEN WITH THE SEED: THE PROGRAM's TIES (one call each: nine closed facts by the kernel) AND EACH ROW's TIE, after the 31st guide's Derived/Test/Toyas{Tie, Card}.lean. No idea stands in it: it is a product of the set-up. Laid BY PROGRAM, IN A SANDBOX (cutbox-door.mjs). By AI agents, Wed Nov 11 2026. No macro, syntax, notation, axiom, sorry.
-/
import Derived.Test.YtopigomfhggkoaaDoorRows
import Derived.LaidByTextLater
import Derived.SevenTiedAt
import Derived.LaidSub
import Derived.LaidOnce
namespace Go.Proofs.YtopigomfhggkoaaDoor
open Go
set_option maxRecDepth 100000
theorem seatTie1 : Tryd.prog.laidByTextLater [("chapman/value.checks", Rows.laid_chapman_value_checks), ("chapman/bounds.null", Rows.laid_chapman_bounds_null), ("chapman/bounds.bools", Rows.laid_chapman_bounds_bools), ("chapman/bounds.logic", Rows.laid_chapman_bounds_logic), ("chapman/bounds.strict", Rows.laid_chapman_bounds_strict)] [.funcs, .data, .mapped, .funcs, .funcs] true :=
  Program.laidByTextLater_by_one 96 8 4 (by kernel_rfl) (by kernel_rfl) (by kernel_rfl) (by kernel_rfl) (by kernel_rfl) (by kernel_rfl) (fun _ _ => by kernel_rfl)
theorem noOwnUnsafe : Tryd.pinned.checked.prog.headLifts.contains "ownunsafe" = false := by kernel_rfl
theorem tie : Tryd.prog.laidByTextLater [("chapman/value.checks", Rows.laid_chapman_value_checks), ("chapman/bounds.null", Rows.laid_chapman_bounds_null), ("chapman/bounds.bools", Rows.laid_chapman_bounds_bools), ("chapman/bounds.logic", Rows.laid_chapman_bounds_logic), ("chapman/bounds.strict", Rows.laid_chapman_bounds_strict)] [.funcs, .data, .mapped, .funcs, .funcs] true :=
  Program.laidByTextLater.sub seatTie1 ["chapman/value.checks", "chapman/bounds.null", "chapman/bounds.bools", "chapman/bounds.logic", "chapman/bounds.strict"] (by kernel_rfl) (by kernel_rfl)
theorem boundsMatchesReference_row_tie : Rows.boundsMatchesReferenceRow.laidByTextAt .later Tryd.pinned [.funcs, .data, .mapped, .funcs, .funcs] true :=
  OpenClaim.laidByTextAt_later rfl rfl tie noOwnUnsafe
theorem boundsOf_row_tie : Rows.boundsOfRow.laidByTextAt .later Tryd.pinned [.funcs, .data, .mapped, .funcs, .funcs] true :=
  OpenClaim.laidByTextAt_later rfl rfl tie noOwnUnsafe
theorem boundsMerge_row_tie : Rows.boundsMergeRow.laidByTextAt .later Tryd.pinned [.funcs, .data, .mapped, .funcs, .funcs] true :=
  OpenClaim.laidByTextAt_later rfl rfl tie noOwnUnsafe
theorem boundsMonotone_row_tie : Rows.boundsMonotoneRow.laidByTextAt .later Tryd.pinned [.funcs, .data, .mapped, .funcs, .funcs] true :=
  OpenClaim.laidByTextAt_later rfl rfl tie noOwnUnsafe
theorem boundsMatchesReferenceUpto_row_tie : Rows.boundsMatchesReferenceUptoRow.laidByTextAt .later Tryd.pinned [.funcs, .data, .mapped, .funcs, .funcs] true :=
  OpenClaim.laidByTextAt_later rfl rfl tie noOwnUnsafe
theorem boundsOfUpto_row_tie : Rows.boundsOfUptoRow.laidByTextAt .later Tryd.pinned [.funcs, .data, .mapped, .funcs, .funcs] true :=
  OpenClaim.laidByTextAt_later rfl rfl tie noOwnUnsafe
theorem boundsMergeUpto_row_tie : Rows.boundsMergeUptoRow.laidByTextAt .later Tryd.pinned [.funcs, .data, .mapped, .funcs, .funcs] true :=
  OpenClaim.laidByTextAt_later rfl rfl tie noOwnUnsafe
theorem boundsMonotoneUpto_row_tie : Rows.boundsMonotoneUptoRow.laidByTextAt .later Tryd.pinned [.funcs, .data, .mapped, .funcs, .funcs] true :=
  OpenClaim.laidByTextAt_later rfl rfl tie noOwnUnsafe
end Go.Proofs.YtopigomfhggkoaaDoor
