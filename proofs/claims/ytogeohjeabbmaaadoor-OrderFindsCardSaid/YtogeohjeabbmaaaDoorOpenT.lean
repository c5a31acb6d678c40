/-
  What the rows of the chapter list: the table of the words that calls take; a world for the witness.
-/
import Derived.Test.YtogeohjeabbmaaaDoorRows
import Derived.Test.YtogeohjeabbmaaaDoorScrPure
import Derived.WalkKit
import Derived.ProofKit
import Derived.OpenShut
import Derived.Deep.DeepHandedRow
import Derived.Lib.LaidTab
set_option linter.unusedSimpArgs false
set_option linter.unusedVariables false
namespace Go.Proofs.YtogeohjeabbmaaaDoor
open Go.ChangeShapes Go.WideShapes Go.ChangeAt Go.RowKit

theorem gTab : Tryd.prog.globalNamed "honeycomb/script.takes" = some 0 := by kernel_rfl
theorem gTabType : (Tryd.prog.globals[0]?).map (·.type) = some 128 := by kernel_rfl
theorem cellsTab : Tryd.prog.cellsOf 128 = 8 := by kernel_rfl
theorem cellsInt : Tryd.prog.cellsOf 3 = 1 := by kernel_rfl
theorem tableT {W : World} (h : laidMetH Tryd.prog [("honeycomb/script.takes", Rows.laid_honeycomb_script_takes)] W) : Lib.TabIs Tryd.prog W "honeycomb/script.takes" .i64 tkL :=
  Lib.tabIs_of_head (rest := []) gTab gTabType Tryd.underlying128 Tryd.underlying3 cellsInt cellsTab h
theorem tks_of {W : World} (h : laidMetH Tryd.prog [("honeycomb/script.takes", Rows.laid_honeycomb_script_takes)] W) : Tks W := fun i hi => by
  have := (tableT h).cell gTab i (by exact hi)
  rw [this, List.getD_eq_getElem?_getD, List.getElem?_eq_getElem (show i < tkL.length from hi)]
/-- A world for the witness: the settled one, the table holding what its initialiser lays. -/
noncomputable def laidW (os : Os) : World :=
  { World.holding Tryd.prog os ⟨#[], #[], []⟩ with heap := (World.holding Tryd.prog os ⟨#[], #[], []⟩).heap.modify 0 fun
      | .cells _ t frozen => .cells #[.int .i64 (-1), .int .i64 1, .int .i64 2, .int .i64 1, .int .i64 3, .int .i64 2, .int .i64 0, .int .i64 0] t frozen
      | o => o }
end Go.Proofs.YtogeohjeabbmaaaDoor
