/-
  The layer does something: the law's first test is true.
-/
import Derived.Test.YtoklgjlmjkhmbaaLanesC
set_option linter.unusedSimpArgs false
set_option linter.unusedVariables false
namespace Go.Proofs.Ytoklgjlmjkhmbaa
open Go.RowKit

theorem wake_first (w : World) : Calls Try.prog 99 #[.int .u8 12] w fun e w' => e = .returned (.tuple #[.int .i64 2, .bool true]) ∧ Below w.heap.size w w' := by
  refine (first_any 12 (by decide) w).mono fun e w' ⟨he, hb⟩ => ⟨?_, hb⟩
  have h1 : firstLane 12 = 2 := by decide +kernel
  have h2 : someLane 12 = true := by decide +kernel
  rw [he, h1, h2]; rfl
theorem wake_fill (w : World) : Calls Try.prog 67 #[.int .u8 3] w fun e w' => e = .returned (.int .u64 217020518514230019) ∧ w' = w := by
  refine (fill_any 3 w (by decide)).mono fun e w' ⟨he, hb⟩ => ⟨?_, hb⟩
  have h1 : fillW 3 = 217020518514230019 := by decide +kernel
  rw [he, h1]; rfl
theorem wake_equal (w : World) : Calls Try.prog 40 #[.int .u64 513, .int .u8 0] w fun e w' => e = .returned (.int .u8 252) ∧ w' = w := by
  refine (equal_any 513 0 w (by decide) (by decide)).mono fun e w' ⟨he, hb⟩ => ⟨?_, hb⟩
  have h1 : equalM 513 0 = 252 := by decide +kernel
  rw [he, h1]; rfl
theorem wake_below (w : World) : Calls Try.prog 106 #[.int .u64 513, .int .u8 2] w fun e w' => e = .returned (.int .u8 253) ∧ w' = w := by
  refine (below_any 513 2 w (by decide) (by decide)).mono fun e w' ⟨he, hb⟩ => ⟨?_, hb⟩
  have h1 : belowM 513 2 = 253 := by decide +kernel
  rw [he, h1]; rfl
end Go.Proofs.Ytoklgjlmjkhmbaa
