/-
  The walk of LanesTurns: it answers true.
-/
import Derived.Test.YtoklgjlmjkhmbaaLanesW
import Derived.Deep.LoopGhost
set_option linter.unusedSimpArgs false
set_option linter.unusedVariables false
namespace Go.Proofs.Ytoklgjlmjkhmbaa
open Go.RowKit

theorem byteAt_turnW (x m i : Nat) (hi : i < 8) : byteAt (turnW x m) i = byteAt x ((i + m) % 8) := by
  unfold turnW
  rw [byteAt_word (turned_bytey x m)]
  unfold turned
  rw [List.getD_eq_getElem?_getD, List.getElem?_map, List.getElem?_range hi]
  simp only [Option.map_some, Option.getD_some]
  exact bytes8_getD _ _ (Nat.mod_lt _ (by decide))
theorem turnW_zero (x m : Nat) (hx : x < 2 ^ 64) (hm : m % 8 = 0) : turnW x m = x :=
  word_ext (turnW_lt _ _) hx fun i hi => by rw [byteAt_turnW x m i hi]; congr 1; omega
theorem turnW_turnW (x m k j : Nat) (hj : j % 8 = (m + k) % 8) : turnW (turnW x m) k = turnW x j :=
  word_ext (turnW_lt _ _) (turnW_lt _ _) fun i hi => by
    rw [byteAt_turnW _ k i hi, byteAt_turnW _ m _ (Nat.mod_lt _ (by decide)), byteAt_turnW _ j i hi]; congr 1; omega

/-- The word turned once more and once more. -/
def turnK (x k : Nat) : Nat := turnW x (k % 8)
theorem turnK_lt (x k : Nat) : turnK x k < 2 ^ 64 := turnW_lt _ _
theorem turnK_succ (x k : Nat) : turnW (turnK x k) 1 = turnK x (k + 1) := turnW_turnW _ _ _ _ (by omega)
theorem turnK_zero (x : Nat) (hx : x < 2 ^ 64) : turnK x 0 = x := turnW_zero _ _ hx rfl
theorem turnK_eight (x : Nat) (hx : x < 2 ^ 64) : turnK x 8 = x := turnW_zero _ _ hx rfl
theorem bytesA_get (x k : Nat) (hk : k < 8) : (bytesA x)[k]? = some (.int .u8 (byteAt x k)) := by
  obtain rfl | rfl | rfl | rfl | rfl | rfl | rfl | rfl : k = 0 ∨ k = 1 ∨ k = 2 ∨ k = 3 ∨ k = 4 ∨ k = 5 ∨ k = 6 ∨ k = 7 := by omega
  all_goals rfl

end Go.Proofs.Ytoklgjlmjkhmbaa
