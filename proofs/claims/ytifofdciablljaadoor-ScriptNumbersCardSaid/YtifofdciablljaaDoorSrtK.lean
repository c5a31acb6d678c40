/-
  The library's sort at rows of uint64: slices.Sort itself; it leaves the one sorted row; a nil slice stays as it is.
-/
import Derived.Test.YtifofdciablljaaDoorSrtJ
import Derived.Sort.LotD1
set_option linter.unusedSimpArgs false
set_option linter.unusedVariables false
namespace Go.Proofs.YtifofdciablljaaDoor
open Go.RowKit Go.Sort

/-- The sorted row. -/
def sorted64 (xs : List Nat) : List Nat := xs.mergeSort (fun x y => decide (x ≤ y))
theorem sort_sorted64 (xs : List Nat) : Sort.sort lt64 xs.toArray = (sorted64 xs).toArray := by
  obtain ⟨p, s⟩ := sort_holds pdq_sorts64 swo64 xs.toArray
  have h := sorted_unique_holds (lt := lt64) swo64 (fun x y h1 h2 => by simp only [lt64, decide_eq_false_iff_not] at h1 h2; omega) xs.toArray (Sort.sort lt64 xs.toArray) p s
  have e : (fun x y => !lt64 y x) = (fun x y : Nat => decide (x ≤ y)) := by
    funext x y
    simp only [lt64]
    by_cases h : x ≤ y <;> simp [h] <;> omega
  rw [e] at h
  unfold sorted64
  rw [← h]

set_option maxHeartbeats 1600000 in
set_option maxRecDepth 100000 in
theorem sort64 (blk off cap : Nat) (d : Array Nat) (w : World) (hH : Holds e64 w blk off d) (hblk : blk < w.heap.size) (hsz : d.size < 4611686018427387904) :
    Calls Tryd.prog 43 #[.slice (some ⟨blk, off, none⟩) d.size cap] w fun e w' => e = .returned (.tuple #[]) ∧ At e64 w blk off (Sort.sort lt64 d) w' := by
  have HH := Lib.hid hH
  clear hH
  have hk : bitsLen d.size ≤ 62 := (bitsLen_le_iff d.size 62).2 (by omega)
  go_enter Tryd.func43, Tryd.ntmps43
  go_wp2_with (first
    | (go_at_call 60; refine (len_any _ _ (by omega)).mono ?_; rintro e w' ⟨rfl, rfl⟩)
    | (go_at_call 59; refine (pdq64 (d.size + 1) blk off cap d.size 0 d.size (bitsLen d.size) d _ rfl (by omega) (by exact HH.out) (by exact hblk) (Nat.zero_le _) (Nat.le_refl _) hsz (by omega) (Or.inl rfl)).mono ?_; rintro e w' ⟨rfl, hw⟩))
  go_end0
  exact ⟨rfl, hw⟩

set_option maxHeartbeats 1600000 in
theorem insertionNil64 (cap : Nat) (w : World) : Calls Tryd.prog 71 #[.slice none 0 cap, .int .i64 0, .int .i64 0] w fun e w' => e = .returned (.tuple #[]) ∧ w' = w := by
  go_enter Tryd.func71, Tryd.ntmps71
  go_wp2
  go_loopw [6] (fun v wr => v = .int .i64 1 ∧ wr = w) (fun _ _ => 0)
  case atStart => exact ⟨rfl, rfl⟩
  case round =>
    obtain ⟨rfl, rfl⟩ := hrel
    go_wp2
    go_end0
    exact ⟨rfl, rfl⟩

set_option maxHeartbeats 1600000 in
set_option maxRecDepth 1000000 in
theorem pdqNil64 (cap : Nat) (w : World) : Calls Tryd.prog 59 #[.slice none 0 cap, .int .i64 0, .int .i64 0, .int .i64 0] w fun e w' => e = .returned (.tuple #[]) ∧ w' = w := by
  go_enter Tryd.func59, Tryd.ntmps59
  go_wp2
  go_loopw [1, 2, 3, 8, 9] (fun v1 v2 v3 v8 v9 wr => v1 = .int .i64 0 ∧ v2 = .int .i64 0 ∧ v3 = .int .i64 0 ∧ v8 = .bool true ∧ v9 = .bool true ∧ wr = w) (fun _ _ _ _ _ _ => 0)
  case atStart => exact ⟨rfl, rfl, rfl, rfl, rfl, rfl⟩
  case round =>
    obtain ⟨rfl, rfl, rfl, rfl, rfl, rfl⟩ := hrel
    go_wp2_with fail
    refine (insertionNil64 cap _).mono ?_
    rintro e w1 ⟨rfl, h1⟩
    obtain rfl := h1.symm
    go_wp2
    (try simp only [Exit.inBlock, Exit.then]); refine bodyPost_ret (results_none rfl _ _ _) rfl ?_
    exact ⟨rfl, rfl⟩

set_option maxHeartbeats 1600000 in
theorem sortNil64 (cap : Nat) (w : World) : Calls Tryd.prog 43 #[.slice none 0 cap] w fun e w' => e = .returned (.tuple #[]) ∧ w' = w := by
  go_enter Tryd.func43, Tryd.ntmps43
  go_wp2_with (first
    | (go_at_call 60; refine (len_any 0 _ (by omega)).mono ?_; rintro e w' ⟨rfl, h1⟩; obtain rfl := h1.symm; rw [show bitsLen 0 = 0 from rfl])
    | (go_at_call 59; refine (pdqNil64 cap _).mono ?_; rintro e w' ⟨rfl, h1⟩; obtain rfl := h1.symm))
  go_end0
  exact ⟨rfl, rfl⟩
end Go.Proofs.YtifofdciablljaaDoor
