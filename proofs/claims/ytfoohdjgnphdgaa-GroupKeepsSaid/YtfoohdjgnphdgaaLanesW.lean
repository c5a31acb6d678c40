/-
  The layer does something: the law's first test is true.
-/
import Derived.Test.YtfoohdjgnphdgaaLanesC
set_option linter.unusedSimpArgs false
set_option linter.unusedVariables false
namespace Go.Proofs.Ytfoohdjgnphdgaa
open Go.RowKit

theorem wake_put (w : World) (b : Nat) (t : TypeId) (h : w.heap[b]? = some (.cells #[.int .i64 1, .int .i64 0] t)) :
    Calls Try.prog 96 #[.int .u64 0, .int .u8 7, .slice (some ⟨b, 0, none⟩) 2 2] w fun e w' => e = .returned (.tuple #[.int .u64 1799, .int .i64 0]) ∧ Below w.heap.size w w' := by
  have hS : Sl w (some ⟨b, 0, none⟩) 2 (i64s [1, 0]) := Sl.of_blk h (by decide)
  refine (put_any 0 7 (some ⟨b, 0, none⟩) 2 2 [1, 0] w (by decide) (by decide) hS).mono fun e w' ⟨he, hb⟩ => ⟨?_, hb⟩
  have h1 : putX 0 7 [1, 0] = 1799 := by decide +kernel
  have h2 : allLanes [1, 0] = true := by decide +kernel
  rw [he, h1, h2]; rfl
theorem wake_get (w : World) : Calls Try.prog 66 #[.int .u64 513, .int .i64 8] w fun e w' => e = .returned (.tuple #[.int .u8 0, .int .i64 110]) ∧ w' = w := by
  refine (get_any 513 8 w).mono fun e w' ⟨he, hb⟩ => ⟨?_, hb⟩
  rw [he, if_neg (by decide)]
theorem wake_fill (w : World) : Calls Try.prog 64 #[.int .u8 3] w fun e w' => e = .returned (.int .u64 217020518514230019) ∧ w' = w := by
  refine (fill_any 3 w (by decide)).mono fun e w' ⟨he, hb⟩ => ⟨?_, hb⟩
  have h1 : fillW 3 = 217020518514230019 := by decide +kernel
  rw [he, h1]; rfl
theorem wake_equal (w : World) : Calls Try.prog 73 #[.int .u64 513, .int .u8 0] w fun e w' => e = .returned (.int .u8 252) ∧ w' = w := by
  refine (equal_any 513 0 w (by decide) (by decide)).mono fun e w' ⟨he, hb⟩ => ⟨?_, hb⟩
  have h1 : equalM 513 0 = 252 := by decide +kernel
  rw [he, h1]; rfl
theorem wake_below (w : World) : Calls Try.prog 79 #[.int .u64 513, .int .u8 2] w fun e w' => e = .returned (.int .u8 253) ∧ w' = w := by
  refine (below_any 513 2 w (by decide) (by decide)).mono fun e w' ⟨he, hb⟩ => ⟨?_, hb⟩
  have h1 : belowM 513 2 = 253 := by decide +kernel
  rw [he, h1]; rfl
end Go.Proofs.Ytfoohdjgnphdgaa
