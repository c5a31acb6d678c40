/-
  The layer does something: the law's first test is true.
-/
import Derived.Test.YtfomcnbpkdkohaaLanesC
set_option linter.unusedSimpArgs false
set_option linter.unusedVariables false
namespace Go.Proofs.Ytfomcnbpkdkohaa
open Go.RowKit

theorem wake_put (w : World) (b : Nat) (t : TypeId) (h : w.heap[b]? = some (.cells #[.int .i64 1, .int .i64 0] t)) :
    Calls Try.prog 12 #[.int .u64 0, .int .u8 7, .slice (some ⟨b, 0, none⟩) 2 2] w fun e w' => e = .returned (.tuple #[.int .u64 1799, .int .i64 0]) ∧ Below w.heap.size w w' := by
  have hS : Sl w (some ⟨b, 0, none⟩) 2 (i64s [1, 0]) := Sl.of_blk h (by decide)
  refine (put_any 0 7 (some ⟨b, 0, none⟩) 2 2 [1, 0] w (by decide) (by decide) hS).mono fun e w' ⟨he, hb⟩ => ⟨?_, hb⟩
  have h1 : putX 0 7 [1, 0] = 1799 := by decide +kernel
  have h2 : allLanes [1, 0] = true := by decide +kernel
  rw [he, h1, h2]; rfl
theorem wake_get (w : World) : Calls Try.prog 13 #[.int .u64 513, .int .i64 8] w fun e w' => e = .returned (.tuple #[.int .u8 0, .int .i64 110]) ∧ w' = w := by
  refine (get_any 513 8 w).mono fun e w' ⟨he, hb⟩ => ⟨?_, hb⟩
  rw [he, if_neg (by decide)]
theorem wake_first (w : World) : Calls Try.prog 33 #[.int .u8 12] w fun e w' => e = .returned (.tuple #[.int .i64 2, .bool true]) ∧ Below w.heap.size w w' := by
  refine (first_any 12 (by decide) w).mono fun e w' ⟨he, hb⟩ => ⟨?_, hb⟩
  have h1 : firstLane 12 = 2 := by decide +kernel
  have h2 : someLane 12 = true := by decide +kernel
  rw [he, h1, h2]; rfl
theorem wake_of (w : World) (b : Nat) (t : TypeId) (h : w.heap[b]? = some (.cells #[.int .u8 1, .int .u8 2, .int .u8 255] t)) :
    Calls Try.prog 11 #[.slice (some ⟨b, 0, none⟩) 3 3] w fun e w' => e = .returned (.int .u64 16712193) ∧ Below w.heap.size w w' := by
  have hS : Sl w (some ⟨b, 0, none⟩) 3 (u8s [1, 2, 255]) := Sl.of_blk h (by decide)
  refine (of_any (some ⟨b, 0, none⟩) 3 3 [1, 2, 255] w (by intro c hc; simp at hc; omega) hS).mono fun e w' ⟨he, hb⟩ => ⟨?_, hb⟩
  have h1 : ofW [1, 2, 255] = 16712193 := by decide +kernel
  rw [he, h1]; rfl
theorem wake_fill (w : World) : Calls Try.prog 31 #[.int .u8 3] w fun e w' => e = .returned (.int .u64 217020518514230019) ∧ w' = w := by
  refine (fill_any 3 w (by decide)).mono fun e w' ⟨he, hb⟩ => ⟨?_, hb⟩
  have h1 : fillW 3 = 217020518514230019 := by decide +kernel
  rw [he, h1]; rfl
theorem wake_equal (w : World) : Calls Try.prog 15 #[.int .u64 513, .int .u8 0] w fun e w' => e = .returned (.int .u8 252) ∧ w' = w := by
  refine (equal_any 513 0 w (by decide) (by decide)).mono fun e w' ⟨he, hb⟩ => ⟨?_, hb⟩
  have h1 : equalM 513 0 = 252 := by decide +kernel
  rw [he, h1]; rfl
theorem wake_below (w : World) : Calls Try.prog 19 #[.int .u64 513, .int .u8 2] w fun e w' => e = .returned (.int .u8 253) ∧ w' = w := by
  refine (below_any 513 2 w (by decide) (by decide)).mono fun e w' ⟨he, hb⟩ => ⟨?_, hb⟩
  have h1 : belowM 513 2 = 253 := by decide +kernel
  rw [he, h1]; rfl
theorem wake_turn (w : World) : Calls Try.prog 16 #[.int .u64 513, .int .i64 (-1)] w fun e w' => e = .returned (.int .u64 131328) ∧ w' = w := by
  refine (turn_any 513 (-1) w (by decide)).mono fun e w' ⟨he, hb⟩ => ⟨?_, hb⟩
  have h1 : turnW 513 7 = 131328 := by decide +kernel
  rw [he, show ((-1 : Int) % 8).toNat = 7 by decide, h1]; rfl

theorem wakes_any (w : World) : Calls Try.prog 9 #[] w fun e w' => e = .returned (.bool true) ∧ Below w.heap.size w w' := by
  go_enter Try.func9, Try.ntmps9
  go_wp2_with fail
  refine (wake_put _ w.heap.size 3 (World.alloc_heap_new _ _)).mono ?_
  rintro e w1 ⟨rfl, hb1⟩
  go_wp2_with (first | (go_at_call 13; refine (wake_get _).mono ?_; rintro e w' ⟨rfl, rfl⟩))
  refine (wake_first _).mono ?_
  rintro e w2 ⟨rfl, hb2⟩
  go_wp2_with fail
  refine (wake_of _ w2.heap.size 5 (World.alloc_heap_new _ _)).mono ?_
  rintro e w3 ⟨rfl, hb3⟩
  go_wp2_with (first | (go_at_call 31; refine (wake_fill _).mono ?_; rintro e w' ⟨rfl, rfl⟩) | (go_at_call 15; refine (wake_equal _).mono ?_; rintro e w' ⟨rfl, rfl⟩) | (go_at_call 19; refine (wake_below _).mono ?_; rintro e w' ⟨rfl, rfl⟩) | (go_at_call 16; refine (wake_turn _).mono ?_; rintro e w' ⟨rfl, rfl⟩))
  go_ret
  refine ⟨rfl, ?_⟩
  have z1 := hb1.size
  have z2 := hb2.size
  simp at z1 z2
  exact ((((Below.refl _ w).alloc (Nat.le_refl _) _).trans (hb1.mono (by simp))).trans ((hb2.mono (by omega)).alloc (by omega) _)).trans (hb3.mono (by simp; omega))

end Go.Proofs.Ytfomcnbpkdkohaa
