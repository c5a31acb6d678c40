/-
  The walk of LanesTurns: it answers true.
-/
import Derived.Test.YtfomcnbpkdkohaaLanesW
import Derived.Deep.LoopGhost
set_option linter.unusedSimpArgs false
set_option linter.unusedVariables false
namespace Go.Proofs.Ytfomcnbpkdkohaa
open Go.RowKit

theorem byteAt_turnW (x m i : Nat) (hi : i < 8) : byteAt (turnW x m) i = byteAt x ((i + m) % 8) := by
  unfold turnW
  rw [byteAt_word (turned_bytey x m)]
  unfold turned
  rw [List.getD_eq_getElem?_getD, List.getElem?_map, List.getElem?_range hi]
  simp only [Option.map_some, Option.getD_some]
  exact bytes8_getD _ _ (Nat.mod_lt _ (by decide))
theorem turnW_zero (x m : Nat) (hx : x < 2 ^ 64) (hm : m % 8 = 0) : turnW x m = x :=
  word_ext (turnW_lt _ _) hx fun i hi => by rw [byteAt_turnW x m i hi]; congr 1; omega
theorem turnW_turnW (x m k j : Nat) (hj : j % 8 = (m + k) % 8) : turnW (turnW x m) k = turnW x j :=
  word_ext (turnW_lt _ _) (turnW_lt _ _) fun i hi => by
    rw [byteAt_turnW _ k i hi, byteAt_turnW _ m _ (Nat.mod_lt _ (by decide)), byteAt_turnW _ j i hi]; congr 1; omega

/-- The word turned once more and once more. -/
def turnK (x k : Nat) : Nat := turnW x (k % 8)
theorem turnK_lt (x k : Nat) : turnK x k < 2 ^ 64 := turnW_lt _ _
theorem turnK_succ (x k : Nat) : turnW (turnK x k) 1 = turnK x (k + 1) := turnW_turnW _ _ _ _ (by omega)
theorem turnK_zero (x : Nat) (hx : x < 2 ^ 64) : turnK x 0 = x := turnW_zero _ _ hx rfl
theorem turnK_eight (x : Nat) (hx : x < 2 ^ 64) : turnK x 8 = x := turnW_zero _ _ hx rfl
theorem turn1_any (x : Nat) (w : World) (hx : x < 2 ^ 64) : Calls Try.prog 16 #[.int .u64 x, .int .i64 1] w fun e w' => e = .returned (.int .u64 (turnW x 1)) ∧ w' = w := turn_any x 1 w hx
theorem turn0_any (x : Nat) (w : World) (hx : x < 2 ^ 64) : Calls Try.prog 16 #[.int .u64 x, .int .i64 0] w fun e w' => e = .returned (.int .u64 x) ∧ w' = w := by
  have := turn_any x 0 w hx
  rw [show ((0 : Int) % 8).toNat = 0 by decide, turnW_zero x 0 hx rfl] at this
  exact this

theorem bytesA_get (x k : Nat) (hk : k < 8) : (bytesA x)[k]? = some (.int .u8 (byteAt x k)) := by
  obtain rfl | rfl | rfl | rfl | rfl | rfl | rfl | rfl : k = 0 ∨ k = 1 ∨ k = 2 ∨ k = 3 ∨ k = 4 ∨ k = 5 ∨ k = 6 ∨ k = 7 := by omega
  all_goals rfl

set_option maxHeartbeats 2000000 in
theorem turns_tt (x t m : Nat) (n r : Int) (w : World) (hx : x < 2 ^ 64) (ht : t < 2 ^ 64) (hn0 : -9223372036854775808 ≤ n) (hn1 : n ≤ 9223372036854775807)
    (hturn : ∀ w, Calls Try.prog 16 #[.int .u64 x, .int .i64 n] w fun e w' => e = .returned (.int .u64 t) ∧ w' = w)
    (hback : ∀ w, Calls Try.prog 16 #[.int .u64 t, .int .i64 (-n)] w fun e w' => e = .returned (.int .u64 x) ∧ w' = w)
    (hr : n.tmod 8 = r) (hr1 : r < 8) (hr2 : -8 < r) (hbytes : ∀ k, k < 8 → byteAt t k = byteAt x (((k : Int) + r + 8) % 8).toNat) (hg : (r == 0) = true) (htx : t = x) (hlo : -4611686018427387904 < n) :
    Calls Try.prog 4 #[.int .u64 x, .int .i64 n] w fun e w' => e = .returned (.bool true) ∧ Below w.heap.size w w' := by
  subst htx
  have HX := Lib.hid hx
  have HT := Lib.hid hturn
  have HB := Lib.hid hback
  have HY := Lib.hid hbytes
  have HL := Lib.hid ht
  clear hturn hx hback hbytes ht
  go_enter Try.func4, Try.ntmps4
  go_wp2_with fail
  refine (wakes_any _).mono ?_
  rintro e w1 ⟨rfl, hb1⟩
  go_wp2_with (go_at_call 16; refine (HT.out _).mono ?_; rintro e w' ⟨rfl, rfl⟩)
  go_loopg [6, 16] 8 (fun q y i wr => ∃ k : Nat, k + q = 8 ∧ i = .int .i64 k ∧ y = .int .u64 (turnK t k) ∧ wr = w')
  case atStart => exact ⟨0, rfl, rfl, by rw [turnK_zero t HX.out], rfl⟩
  case round =>
    obtain ⟨k, hk, rfl, rfl, rfl⟩ := hrel
    have HK := Lib.hid hk
    have hk8 : k ≤ 8 := by omega
    clear hk
    by_cases h8 : k < 8
    · have hc := turn1_any (turnK t k) wr (turnK_lt t k)
      rw [turnK_succ] at hc
      go_wp2_with (go_at_call 16; refine hc.mono ?_; clear hc; rintro e w' ⟨rfl, rfl⟩)
      go_roundg (gk - 1)
      case measure => have := HK.out; omega
      case rel => exact ⟨k + 1, by have := HK.out; omega, by go_num, rfl, rfl⟩
    · obtain rfl : k = 8 := by omega
      rw [turnK_eight t HX.out]
      have hT0 := Lib.hid (turn0_any t wr HX.out)
      have hB0 := Lib.hid (HB.out wr)
      go_wp2_with fail
      refine hT0.out.mono ?_
      rintro e w2 ⟨rfl, rfl⟩
      go_wp2_with fail
      refine hB0.out.mono ?_
      rintro e w6 ⟨rfl, rfl⟩
      go_wp2_with fail
      refine (bytes_any t _).mono ?_
      rintro e w3 ⟨rfl, hb3⟩
      go_wp2_with fail
      refine (bytes_any t _).mono ?_
      rintro e w4 ⟨rfl, hb4⟩
      have hT := heap_alloc2_old w4 (.cells #[.int .u8 0, .int .u8 0, .int .u8 0, .int .u8 0, .int .u8 0, .int .u8 0, .int .u8 0, .int .u8 0] 24) (.cells #[.int .u8 0, .int .u8 0, .int .u8 0, .int .u8 0, .int .u8 0, .int .u8 0, .int .u8 0, .int .u8 0] 24)
      have hU := heap_alloc2_new w4 (.cells #[.int .u8 0, .int .u8 0, .int .u8 0, .int .u8 0, .int .u8 0, .int .u8 0, .int .u8 0, .int .u8 0] 24) (.cells #[.int .u8 0, .int .u8 0, .int .u8 0, .int .u8 0, .int .u8 0, .int .u8 0, .int .u8 0, .int .u8 0] 24)
      have hU1 : (((w4.alloc (.cells #[.int .u8 0, .int .u8 0, .int .u8 0, .int .u8 0, .int .u8 0, .int .u8 0, .int .u8 0, .int .u8 0] 24)).alloc (.cells #[.int .u8 0, .int .u8 0, .int .u8 0, .int .u8 0, .int .u8 0, .int .u8 0, .int .u8 0, .int .u8 0] 24)).setRow w4.heap.size (bytesA t)).heap[w4.heap.size + 1]? = _ := (setRow_other _ _ _ _ (by omega)).trans hU
      go_wp2_with (first | (refine wpList_store_row rfl 24 (.tmp 7) (.tmp 51) rfl w4.heap.size (bytesA t) rfl rfl 24 #[.int .u8 0, .int .u8 0, .int .u8 0, .int .u8 0, .int .u8 0, .int .u8 0, .int .u8 0, .int .u8 0] hT info_bytes rfl (sofarA_one t 8) ?_) | (refine wpList_store_row rfl 24 (.tmp 8) (.tmp 53) rfl (w4.heap.size + 1) (bytesA t) rfl rfl 24 #[.int .u8 0, .int .u8 0, .int .u8 0, .int .u8 0, .int .u8 0, .int .u8 0, .int .u8 0, .int .u8 0] hU1 info_bytes rfl (sofarA_one t 8) ?_))
      obtain ⟨w5, hw5⟩ : ∃ w5, w5 = (((w4.alloc (.cells #[.int .u8 0, .int .u8 0, .int .u8 0, .int .u8 0, .int .u8 0, .int .u8 0, .int .u8 0, .int .u8 0] 24)).alloc (.cells #[.int .u8 0, .int .u8 0, .int .u8 0, .int .u8 0, .int .u8 0, .int .u8 0, .int .u8 0, .int .u8 0] 24)).setRow w4.heap.size (bytesA t)).setRow (w4.heap.size + 1) (bytesA t) := ⟨_, rfl⟩
      have hA : w5.heap[w4.heap.size]? = some (.cells (bytesA t) 24 (0, 0)) := by rw [hw5]; exact (setRow_other _ _ _ _ (by omega)).trans (setRow_heap _ _ _ _ _ _ hT)
      have hB : w5.heap[w4.heap.size + 1]? = some (.cells (bytesA t) 24 (0, 0)) := by rw [hw5]; exact setRow_heap _ _ _ _ _ _ hU1
      have hb5 : Below w.heap.size w w5 := by
        have z1 := hb1.size
        have z3 := hb3.size
        have z4 := hb4.size
        rw [hw5]
        exact below_setRow' (below_setRow' (((((hb1.trans (hb3.mono (by omega))).trans (hb4.mono (by omega))).alloc (by omega) _).alloc (by simp; omega) _)) (by omega) _) (by omega) _
      rw [← hw5]
      clear hw5 hT hU hU1 hb1 hb3 hb4
      go_loopg [54] 8 (fun q i wr => ∃ k : Nat, k + q = 8 ∧ i = .int .i64 k ∧ ∃ d, wr = w5.drewN d)
      case atStart => exact ⟨0, rfl, rfl, 0, rfl⟩
      case round =>
        obtain ⟨k, hk, rfl, d, rfl⟩ := hrel
        have HK := Lib.hid hk
        have hk8 : k ≤ 8 := by omega
        clear hk
        by_cases h8 : k < 8
        · obtain ⟨j, hj⟩ : ∃ j : Nat, ((k : Int) + r + 8) % 8 = (j : Int) := ⟨(((k : Int) + r + 8) % 8).toNat, by omega⟩
          have hj8 : j < 8 := by omega
          have hby := HY.out k h8
          rw [hj, Int.toNat_natCast] at hby
          have c1 : (w5.drewN d).cell? ⟨w4.heap.size + 1, k, none⟩ = some (.int .u8 (byteAt t k)) := blk_cell (W := w5.drewN d) hB (bytesA_get t k h8)
          have c2 : (w5.drewN d).cell? ⟨w4.heap.size, j, none⟩ = some (.int .u8 (byteAt t k)) := by rw [hby]; exact blk_cell (W := w5.drewN d) hA (bytesA_get t j hj8)
          have c1' : ∀ q, (w5.drewN q).cell? ⟨w4.heap.size + 1, k, none⟩ = some (.int .u8 (byteAt t k)) := fun q => c1
          have c2' : ∀ q, (w5.drewN q).cell? ⟨w4.heap.size, j, none⟩ = some (.int .u8 (byteAt t k)) := fun q => c2
          have s1 : IntKind.i64.wrap ((k : Int) + r) = (k : Int) + r := IntWalk.i64_in _ (by omega)
          have s2 : IntKind.i64.wrap ((k : Int) + r + 8) = (k : Int) + r + 8 := IntWalk.i64_in _ (by omega)
          have s3 : ((k : Int) + r + 8).tmod 8 = (j : Int) := by rw [Int.tmod_eq_emod_of_nonneg (by omega), hj]
          generalize byteAt t k = c at *
          clear hby hA hB hb5 hj
          have i1 : (k : Int) < 8 := by omega
          have i2 : (0 : Int) ≤ (k : Int) := by omega
          have i3 : (j : Int) < 8 := by omega
          have i4 : (0 : Int) ≤ (j : Int) := by omega
          go_wp2_with fail
          go_quiet (fail)
          go_wp2
          go_roundg (gk - 1)
          case measure => have := HK.out; omega
          case rel => exact ⟨k + 1, by have := HK.out; omega, by go_num, d + nq, rfl⟩
        · obtain rfl : k = 8 := by omega
          go_wp2
          go_ret
          exact ⟨rfl, hb5.trans (below_drewN' _ _)⟩

set_option maxHeartbeats 2000000 in
theorem turns_tf (x t m : Nat) (n r : Int) (w : World) (hx : x < 2 ^ 64) (ht : t < 2 ^ 64) (hn0 : -9223372036854775808 ≤ n) (hn1 : n ≤ 9223372036854775807)
    (hturn : ∀ w, Calls Try.prog 16 #[.int .u64 x, .int .i64 n] w fun e w' => e = .returned (.int .u64 t) ∧ w' = w)
    (hback : ∀ w, Calls Try.prog 16 #[.int .u64 t, .int .i64 (-n)] w fun e w' => e = .returned (.int .u64 x) ∧ w' = w)
    (hr : n.tmod 8 = r) (hr1 : r < 8) (hr2 : -8 < r) (hbytes : ∀ k, k < 8 → byteAt t k = byteAt x (((k : Int) + r + 8) % 8).toNat) (hg : (r == 0) = true) (htx : t = x) (hlo : ¬ -4611686018427387904 < n) :
    Calls Try.prog 4 #[.int .u64 x, .int .i64 n] w fun e w' => e = .returned (.bool true) ∧ Below w.heap.size w w' := by
  subst htx
  have HX := Lib.hid hx
  have HT := Lib.hid hturn
  have HB := Lib.hid hback
  have HY := Lib.hid hbytes
  have HL := Lib.hid ht
  clear hturn hx hback hbytes ht
  go_enter Try.func4, Try.ntmps4
  go_wp2_with fail
  refine (wakes_any _).mono ?_
  rintro e w1 ⟨rfl, hb1⟩
  go_wp2_with (go_at_call 16; refine (HT.out _).mono ?_; rintro e w' ⟨rfl, rfl⟩)
  go_loopg [6, 16] 8 (fun q y i wr => ∃ k : Nat, k + q = 8 ∧ i = .int .i64 k ∧ y = .int .u64 (turnK t k) ∧ wr = w')
  case atStart => exact ⟨0, rfl, rfl, by rw [turnK_zero t HX.out], rfl⟩
  case round =>
    obtain ⟨k, hk, rfl, rfl, rfl⟩ := hrel
    have HK := Lib.hid hk
    have hk8 : k ≤ 8 := by omega
    clear hk
    by_cases h8 : k < 8
    · have hc := turn1_any (turnK t k) wr (turnK_lt t k)
      rw [turnK_succ] at hc
      go_wp2_with (go_at_call 16; refine hc.mono ?_; clear hc; rintro e w' ⟨rfl, rfl⟩)
      go_roundg (gk - 1)
      case measure => have := HK.out; omega
      case rel => exact ⟨k + 1, by have := HK.out; omega, by go_num, rfl, rfl⟩
    · obtain rfl : k = 8 := by omega
      rw [turnK_eight t HX.out]
      have hT0 := Lib.hid (turn0_any t wr HX.out)
      have hB0 := Lib.hid (HB.out wr)
      go_wp2_with fail
      refine hT0.out.mono ?_
      rintro e w2 ⟨rfl, rfl⟩
      go_wp2_with fail
      refine (bytes_any t _).mono ?_
      rintro e w3 ⟨rfl, hb3⟩
      go_wp2_with fail
      refine (bytes_any t _).mono ?_
      rintro e w4 ⟨rfl, hb4⟩
      have hT := heap_alloc2_old w4 (.cells #[.int .u8 0, .int .u8 0, .int .u8 0, .int .u8 0, .int .u8 0, .int .u8 0, .int .u8 0, .int .u8 0] 24) (.cells #[.int .u8 0, .int .u8 0, .int .u8 0, .int .u8 0, .int .u8 0, .int .u8 0, .int .u8 0, .int .u8 0] 24)
      have hU := heap_alloc2_new w4 (.cells #[.int .u8 0, .int .u8 0, .int .u8 0, .int .u8 0, .int .u8 0, .int .u8 0, .int .u8 0, .int .u8 0] 24) (.cells #[.int .u8 0, .int .u8 0, .int .u8 0, .int .u8 0, .int .u8 0, .int .u8 0, .int .u8 0, .int .u8 0] 24)
      have hU1 : (((w4.alloc (.cells #[.int .u8 0, .int .u8 0, .int .u8 0, .int .u8 0, .int .u8 0, .int .u8 0, .int .u8 0, .int .u8 0] 24)).alloc (.cells #[.int .u8 0, .int .u8 0, .int .u8 0, .int .u8 0, .int .u8 0, .int .u8 0, .int .u8 0, .int .u8 0] 24)).setRow w4.heap.size (bytesA t)).heap[w4.heap.size + 1]? = _ := (setRow_other _ _ _ _ (by omega)).trans hU
      go_wp2_with (first | (refine wpList_store_row rfl 24 (.tmp 7) (.tmp 51) rfl w4.heap.size (bytesA t) rfl rfl 24 #[.int .u8 0, .int .u8 0, .int .u8 0, .int .u8 0, .int .u8 0, .int .u8 0, .int .u8 0, .int .u8 0] hT info_bytes rfl (sofarA_one t 8) ?_) | (refine wpList_store_row rfl 24 (.tmp 8) (.tmp 53) rfl (w4.heap.size + 1) (bytesA t) rfl rfl 24 #[.int .u8 0, .int .u8 0, .int .u8 0, .int .u8 0, .int .u8 0, .int .u8 0, .int .u8 0, .int .u8 0] hU1 info_bytes rfl (sofarA_one t 8) ?_))
      obtain ⟨w5, hw5⟩ : ∃ w5, w5 = (((w4.alloc (.cells #[.int .u8 0, .int .u8 0, .int .u8 0, .int .u8 0, .int .u8 0, .int .u8 0, .int .u8 0, .int .u8 0] 24)).alloc (.cells #[.int .u8 0, .int .u8 0, .int .u8 0, .int .u8 0, .int .u8 0, .int .u8 0, .int .u8 0, .int .u8 0] 24)).setRow w4.heap.size (bytesA t)).setRow (w4.heap.size + 1) (bytesA t) := ⟨_, rfl⟩
      have hA : w5.heap[w4.heap.size]? = some (.cells (bytesA t) 24 (0, 0)) := by rw [hw5]; exact (setRow_other _ _ _ _ (by omega)).trans (setRow_heap _ _ _ _ _ _ hT)
      have hB : w5.heap[w4.heap.size + 1]? = some (.cells (bytesA t) 24 (0, 0)) := by rw [hw5]; exact setRow_heap _ _ _ _ _ _ hU1
      have hb5 : Below w.heap.size w w5 := by
        have z1 := hb1.size
        have z3 := hb3.size
        have z4 := hb4.size
        rw [hw5]
        exact below_setRow' (below_setRow' (((((hb1.trans (hb3.mono (by omega))).trans (hb4.mono (by omega))).alloc (by omega) _).alloc (by simp; omega) _)) (by omega) _) (by omega) _
      rw [← hw5]
      clear hw5 hT hU hU1 hb1 hb3 hb4
      go_loopg [54] 8 (fun q i wr => ∃ k : Nat, k + q = 8 ∧ i = .int .i64 k ∧ ∃ d, wr = w5.drewN d)
      case atStart => exact ⟨0, rfl, rfl, 0, rfl⟩
      case round =>
        obtain ⟨k, hk, rfl, d, rfl⟩ := hrel
        have HK := Lib.hid hk
        have hk8 : k ≤ 8 := by omega
        clear hk
        by_cases h8 : k < 8
        · obtain ⟨j, hj⟩ : ∃ j : Nat, ((k : Int) + r + 8) % 8 = (j : Int) := ⟨(((k : Int) + r + 8) % 8).toNat, by omega⟩
          have hj8 : j < 8 := by omega
          have hby := HY.out k h8
          rw [hj, Int.toNat_natCast] at hby
          have c1 : (w5.drewN d).cell? ⟨w4.heap.size + 1, k, none⟩ = some (.int .u8 (byteAt t k)) := blk_cell (W := w5.drewN d) hB (bytesA_get t k h8)
          have c2 : (w5.drewN d).cell? ⟨w4.heap.size, j, none⟩ = some (.int .u8 (byteAt t k)) := by rw [hby]; exact blk_cell (W := w5.drewN d) hA (bytesA_get t j hj8)
          have c1' : ∀ q, (w5.drewN q).cell? ⟨w4.heap.size + 1, k, none⟩ = some (.int .u8 (byteAt t k)) := fun q => c1
          have c2' : ∀ q, (w5.drewN q).cell? ⟨w4.heap.size, j, none⟩ = some (.int .u8 (byteAt t k)) := fun q => c2
          have s1 : IntKind.i64.wrap ((k : Int) + r) = (k : Int) + r := IntWalk.i64_in _ (by omega)
          have s2 : IntKind.i64.wrap ((k : Int) + r + 8) = (k : Int) + r + 8 := IntWalk.i64_in _ (by omega)
          have s3 : ((k : Int) + r + 8).tmod 8 = (j : Int) := by rw [Int.tmod_eq_emod_of_nonneg (by omega), hj]
          generalize byteAt t k = c at *
          clear hby hA hB hb5 hj
          have i1 : (k : Int) < 8 := by omega
          have i2 : (0 : Int) ≤ (k : Int) := by omega
          have i3 : (j : Int) < 8 := by omega
          have i4 : (0 : Int) ≤ (j : Int) := by omega
          go_wp2_with fail
          go_quiet (fail)
          go_wp2
          go_roundg (gk - 1)
          case measure => have := HK.out; omega
          case rel => exact ⟨k + 1, by have := HK.out; omega, by go_num, d + nq, rfl⟩
        · obtain rfl : k = 8 := by omega
          go_wp2
          go_ret
          exact ⟨rfl, hb5.trans (below_drewN' _ _)⟩

set_option maxHeartbeats 2000000 in
theorem turns_ft (x t m : Nat) (n r : Int) (w : World) (hx : x < 2 ^ 64) (ht : t < 2 ^ 64) (hn0 : -9223372036854775808 ≤ n) (hn1 : n ≤ 9223372036854775807)
    (hturn : ∀ w, Calls Try.prog 16 #[.int .u64 x, .int .i64 n] w fun e w' => e = .returned (.int .u64 t) ∧ w' = w)
    (hback : ∀ w, Calls Try.prog 16 #[.int .u64 t, .int .i64 (-n)] w fun e w' => e = .returned (.int .u64 x) ∧ w' = w)
    (hr : n.tmod 8 = r) (hr1 : r < 8) (hr2 : -8 < r) (hbytes : ∀ k, k < 8 → byteAt t k = byteAt x (((k : Int) + r + 8) % 8).toNat) (hg : (r == 0) = false) (hlo : -4611686018427387904 < n) :
    Calls Try.prog 4 #[.int .u64 x, .int .i64 n] w fun e w' => e = .returned (.bool true) ∧ Below w.heap.size w w' := by
  have HX := Lib.hid hx
  have HT := Lib.hid hturn
  have HB := Lib.hid hback
  have HY := Lib.hid hbytes
  have HL := Lib.hid ht
  clear hturn hx hback hbytes ht
  go_enter Try.func4, Try.ntmps4
  go_wp2_with fail
  refine (wakes_any _).mono ?_
  rintro e w1 ⟨rfl, hb1⟩
  go_wp2_with (go_at_call 16; refine (HT.out _).mono ?_; rintro e w' ⟨rfl, rfl⟩)
  go_loopg [6, 16] 8 (fun q y i wr => ∃ k : Nat, k + q = 8 ∧ i = .int .i64 k ∧ y = .int .u64 (turnK x k) ∧ wr = w')
  case atStart => exact ⟨0, rfl, rfl, by rw [turnK_zero x HX.out], rfl⟩
  case round =>
    obtain ⟨k, hk, rfl, rfl, rfl⟩ := hrel
    have HK := Lib.hid hk
    have hk8 : k ≤ 8 := by omega
    clear hk
    by_cases h8 : k < 8
    · have hc := turn1_any (turnK x k) wr (turnK_lt x k)
      rw [turnK_succ] at hc
      go_wp2_with (go_at_call 16; refine hc.mono ?_; clear hc; rintro e w' ⟨rfl, rfl⟩)
      go_roundg (gk - 1)
      case measure => have := HK.out; omega
      case rel => exact ⟨k + 1, by have := HK.out; omega, by go_num, rfl, rfl⟩
    · obtain rfl : k = 8 := by omega
      rw [turnK_eight x HX.out]
      have hT0 := Lib.hid (turn0_any x wr HX.out)
      have hB0 := Lib.hid (HB.out wr)
      go_wp2_with fail
      refine hT0.out.mono ?_
      rintro e w2 ⟨rfl, rfl⟩
      go_wp2_with fail
      refine hB0.out.mono ?_
      rintro e w6 ⟨rfl, rfl⟩
      go_wp2_with fail
      refine (bytes_any x _).mono ?_
      rintro e w3 ⟨rfl, hb3⟩
      go_wp2_with fail
      refine (bytes_any t _).mono ?_
      rintro e w4 ⟨rfl, hb4⟩
      have hT := heap_alloc2_old w4 (.cells #[.int .u8 0, .int .u8 0, .int .u8 0, .int .u8 0, .int .u8 0, .int .u8 0, .int .u8 0, .int .u8 0] 24) (.cells #[.int .u8 0, .int .u8 0, .int .u8 0, .int .u8 0, .int .u8 0, .int .u8 0, .int .u8 0, .int .u8 0] 24)
      have hU := heap_alloc2_new w4 (.cells #[.int .u8 0, .int .u8 0, .int .u8 0, .int .u8 0, .int .u8 0, .int .u8 0, .int .u8 0, .int .u8 0] 24) (.cells #[.int .u8 0, .int .u8 0, .int .u8 0, .int .u8 0, .int .u8 0, .int .u8 0, .int .u8 0, .int .u8 0] 24)
      have hU1 : (((w4.alloc (.cells #[.int .u8 0, .int .u8 0, .int .u8 0, .int .u8 0, .int .u8 0, .int .u8 0, .int .u8 0, .int .u8 0] 24)).alloc (.cells #[.int .u8 0, .int .u8 0, .int .u8 0, .int .u8 0, .int .u8 0, .int .u8 0, .int .u8 0, .int .u8 0] 24)).setRow w4.heap.size (bytesA x)).heap[w4.heap.size + 1]? = _ := (setRow_other _ _ _ _ (by omega)).trans hU
      go_wp2_with (first | (refine wpList_store_row rfl 24 (.tmp 7) (.tmp 51) rfl w4.heap.size (bytesA x) rfl rfl 24 #[.int .u8 0, .int .u8 0, .int .u8 0, .int .u8 0, .int .u8 0, .int .u8 0, .int .u8 0, .int .u8 0] hT info_bytes rfl (sofarA_one x 8) ?_) | (refine wpList_store_row rfl 24 (.tmp 8) (.tmp 53) rfl (w4.heap.size + 1) (bytesA t) rfl rfl 24 #[.int .u8 0, .int .u8 0, .int .u8 0, .int .u8 0, .int .u8 0, .int .u8 0, .int .u8 0, .int .u8 0] hU1 info_bytes rfl (sofarA_one t 8) ?_))
      obtain ⟨w5, hw5⟩ : ∃ w5, w5 = (((w4.alloc (.cells #[.int .u8 0, .int .u8 0, .int .u8 0, .int .u8 0, .int .u8 0, .int .u8 0, .int .u8 0, .int .u8 0] 24)).alloc (.cells #[.int .u8 0, .int .u8 0, .int .u8 0, .int .u8 0, .int .u8 0, .int .u8 0, .int .u8 0, .int .u8 0] 24)).setRow w4.heap.size (bytesA x)).setRow (w4.heap.size + 1) (bytesA t) := ⟨_, rfl⟩
      have hA : w5.heap[w4.heap.size]? = some (.cells (bytesA x) 24 (0, 0)) := by rw [hw5]; exact (setRow_other _ _ _ _ (by omega)).trans (setRow_heap _ _ _ _ _ _ hT)
      have hB : w5.heap[w4.heap.size + 1]? = some (.cells (bytesA t) 24 (0, 0)) := by rw [hw5]; exact setRow_heap _ _ _ _ _ _ hU1
      have hb5 : Below w.heap.size w w5 := by
        have z1 := hb1.size
        have z3 := hb3.size
        have z4 := hb4.size
        rw [hw5]
        exact below_setRow' (below_setRow' (((((hb1.trans (hb3.mono (by omega))).trans (hb4.mono (by omega))).alloc (by omega) _).alloc (by simp; omega) _)) (by omega) _) (by omega) _
      rw [← hw5]
      clear hw5 hT hU hU1 hb1 hb3 hb4
      go_loopg [54] 8 (fun q i wr => ∃ k : Nat, k + q = 8 ∧ i = .int .i64 k ∧ ∃ d, wr = w5.drewN d)
      case atStart => exact ⟨0, rfl, rfl, 0, rfl⟩
      case round =>
        obtain ⟨k, hk, rfl, d, rfl⟩ := hrel
        have HK := Lib.hid hk
        have hk8 : k ≤ 8 := by omega
        clear hk
        by_cases h8 : k < 8
        · obtain ⟨j, hj⟩ : ∃ j : Nat, ((k : Int) + r + 8) % 8 = (j : Int) := ⟨(((k : Int) + r + 8) % 8).toNat, by omega⟩
          have hj8 : j < 8 := by omega
          have hby := HY.out k h8
          rw [hj, Int.toNat_natCast] at hby
          have c1 : (w5.drewN d).cell? ⟨w4.heap.size + 1, k, none⟩ = some (.int .u8 (byteAt t k)) := blk_cell (W := w5.drewN d) hB (bytesA_get t k h8)
          have c2 : (w5.drewN d).cell? ⟨w4.heap.size, j, none⟩ = some (.int .u8 (byteAt t k)) := by rw [hby]; exact blk_cell (W := w5.drewN d) hA (bytesA_get x j hj8)
          have c1' : ∀ q, (w5.drewN q).cell? ⟨w4.heap.size + 1, k, none⟩ = some (.int .u8 (byteAt t k)) := fun q => c1
          have c2' : ∀ q, (w5.drewN q).cell? ⟨w4.heap.size, j, none⟩ = some (.int .u8 (byteAt t k)) := fun q => c2
          have s1 : IntKind.i64.wrap ((k : Int) + r) = (k : Int) + r := IntWalk.i64_in _ (by omega)
          have s2 : IntKind.i64.wrap ((k : Int) + r + 8) = (k : Int) + r + 8 := IntWalk.i64_in _ (by omega)
          have s3 : ((k : Int) + r + 8).tmod 8 = (j : Int) := by rw [Int.tmod_eq_emod_of_nonneg (by omega), hj]
          generalize byteAt t k = c at *
          clear hby hA hB hb5 hj
          have i1 : (k : Int) < 8 := by omega
          have i2 : (0 : Int) ≤ (k : Int) := by omega
          have i3 : (j : Int) < 8 := by omega
          have i4 : (0 : Int) ≤ (j : Int) := by omega
          go_wp2_with fail
          go_quiet (fail)
          go_wp2
          go_roundg (gk - 1)
          case measure => have := HK.out; omega
          case rel => exact ⟨k + 1, by have := HK.out; omega, by go_num, d + nq, rfl⟩
        · obtain rfl : k = 8 := by omega
          go_wp2
          go_ret
          exact ⟨rfl, hb5.trans (below_drewN' _ _)⟩

set_option maxHeartbeats 2000000 in
theorem turns_ff (x t m : Nat) (n r : Int) (w : World) (hx : x < 2 ^ 64) (ht : t < 2 ^ 64) (hn0 : -9223372036854775808 ≤ n) (hn1 : n ≤ 9223372036854775807)
    (hturn : ∀ w, Calls Try.prog 16 #[.int .u64 x, .int .i64 n] w fun e w' => e = .returned (.int .u64 t) ∧ w' = w)
    (hback : ∀ w, Calls Try.prog 16 #[.int .u64 t, .int .i64 (-n)] w fun e w' => e = .returned (.int .u64 x) ∧ w' = w)
    (hr : n.tmod 8 = r) (hr1 : r < 8) (hr2 : -8 < r) (hbytes : ∀ k, k < 8 → byteAt t k = byteAt x (((k : Int) + r + 8) % 8).toNat) (hg : (r == 0) = false) (hlo : ¬ -4611686018427387904 < n) :
    Calls Try.prog 4 #[.int .u64 x, .int .i64 n] w fun e w' => e = .returned (.bool true) ∧ Below w.heap.size w w' := by
  have HX := Lib.hid hx
  have HT := Lib.hid hturn
  have HB := Lib.hid hback
  have HY := Lib.hid hbytes
  have HL := Lib.hid ht
  clear hturn hx hback hbytes ht
  go_enter Try.func4, Try.ntmps4
  go_wp2_with fail
  refine (wakes_any _).mono ?_
  rintro e w1 ⟨rfl, hb1⟩
  go_wp2_with (go_at_call 16; refine (HT.out _).mono ?_; rintro e w' ⟨rfl, rfl⟩)
  go_loopg [6, 16] 8 (fun q y i wr => ∃ k : Nat, k + q = 8 ∧ i = .int .i64 k ∧ y = .int .u64 (turnK x k) ∧ wr = w')
  case atStart => exact ⟨0, rfl, rfl, by rw [turnK_zero x HX.out], rfl⟩
  case round =>
    obtain ⟨k, hk, rfl, rfl, rfl⟩ := hrel
    have HK := Lib.hid hk
    have hk8 : k ≤ 8 := by omega
    clear hk
    by_cases h8 : k < 8
    · have hc := turn1_any (turnK x k) wr (turnK_lt x k)
      rw [turnK_succ] at hc
      go_wp2_with (go_at_call 16; refine hc.mono ?_; clear hc; rintro e w' ⟨rfl, rfl⟩)
      go_roundg (gk - 1)
      case measure => have := HK.out; omega
      case rel => exact ⟨k + 1, by have := HK.out; omega, by go_num, rfl, rfl⟩
    · obtain rfl : k = 8 := by omega
      rw [turnK_eight x HX.out]
      have hT0 := Lib.hid (turn0_any x wr HX.out)
      have hB0 := Lib.hid (HB.out wr)
      go_wp2_with fail
      refine hT0.out.mono ?_
      rintro e w2 ⟨rfl, rfl⟩
      go_wp2_with fail
      refine (bytes_any x _).mono ?_
      rintro e w3 ⟨rfl, hb3⟩
      go_wp2_with fail
      refine (bytes_any t _).mono ?_
      rintro e w4 ⟨rfl, hb4⟩
      have hT := heap_alloc2_old w4 (.cells #[.int .u8 0, .int .u8 0, .int .u8 0, .int .u8 0, .int .u8 0, .int .u8 0, .int .u8 0, .int .u8 0] 24) (.cells #[.int .u8 0, .int .u8 0, .int .u8 0, .int .u8 0, .int .u8 0, .int .u8 0, .int .u8 0, .int .u8 0] 24)
      have hU := heap_alloc2_new w4 (.cells #[.int .u8 0, .int .u8 0, .int .u8 0, .int .u8 0, .int .u8 0, .int .u8 0, .int .u8 0, .int .u8 0] 24) (.cells #[.int .u8 0, .int .u8 0, .int .u8 0, .int .u8 0, .int .u8 0, .int .u8 0, .int .u8 0, .int .u8 0] 24)
      have hU1 : (((w4.alloc (.cells #[.int .u8 0, .int .u8 0, .int .u8 0, .int .u8 0, .int .u8 0, .int .u8 0, .int .u8 0, .int .u8 0] 24)).alloc (.cells #[.int .u8 0, .int .u8 0, .int .u8 0, .int .u8 0, .int .u8 0, .int .u8 0, .int .u8 0, .int .u8 0] 24)).setRow w4.heap.size (bytesA x)).heap[w4.heap.size + 1]? = _ := (setRow_other _ _ _ _ (by omega)).trans hU
      go_wp2_with (first | (refine wpList_store_row rfl 24 (.tmp 7) (.tmp 51) rfl w4.heap.size (bytesA x) rfl rfl 24 #[.int .u8 0, .int .u8 0, .int .u8 0, .int .u8 0, .int .u8 0, .int .u8 0, .int .u8 0, .int .u8 0] hT info_bytes rfl (sofarA_one x 8) ?_) | (refine wpList_store_row rfl 24 (.tmp 8) (.tmp 53) rfl (w4.heap.size + 1) (bytesA t) rfl rfl 24 #[.int .u8 0, .int .u8 0, .int .u8 0, .int .u8 0, .int .u8 0, .int .u8 0, .int .u8 0, .int .u8 0] hU1 info_bytes rfl (sofarA_one t 8) ?_))
      obtain ⟨w5, hw5⟩ : ∃ w5, w5 = (((w4.alloc (.cells #[.int .u8 0, .int .u8 0, .int .u8 0, .int .u8 0, .int .u8 0, .int .u8 0, .int .u8 0, .int .u8 0] 24)).alloc (.cells #[.int .u8 0, .int .u8 0, .int .u8 0, .int .u8 0, .int .u8 0, .int .u8 0, .int .u8 0, .int .u8 0] 24)).setRow w4.heap.size (bytesA x)).setRow (w4.heap.size + 1) (bytesA t) := ⟨_, rfl⟩
      have hA : w5.heap[w4.heap.size]? = some (.cells (bytesA x) 24 (0, 0)) := by rw [hw5]; exact (setRow_other _ _ _ _ (by omega)).trans (setRow_heap _ _ _ _ _ _ hT)
      have hB : w5.heap[w4.heap.size + 1]? = some (.cells (bytesA t) 24 (0, 0)) := by rw [hw5]; exact setRow_heap _ _ _ _ _ _ hU1
      have hb5 : Below w.heap.size w w5 := by
        have z1 := hb1.size
        have z3 := hb3.size
        have z4 := hb4.size
        rw [hw5]
        exact below_setRow' (below_setRow' (((((hb1.trans (hb3.mono (by omega))).trans (hb4.mono (by omega))).alloc (by omega) _).alloc (by simp; omega) _)) (by omega) _) (by omega) _
      rw [← hw5]
      clear hw5 hT hU hU1 hb1 hb3 hb4
      go_loopg [54] 8 (fun q i wr => ∃ k : Nat, k + q = 8 ∧ i = .int .i64 k ∧ ∃ d, wr = w5.drewN d)
      case atStart => exact ⟨0, rfl, rfl, 0, rfl⟩
      case round =>
        obtain ⟨k, hk, rfl, d, rfl⟩ := hrel
        have HK := Lib.hid hk
        have hk8 : k ≤ 8 := by omega
        clear hk
        by_cases h8 : k < 8
        · obtain ⟨j, hj⟩ : ∃ j : Nat, ((k : Int) + r + 8) % 8 = (j : Int) := ⟨(((k : Int) + r + 8) % 8).toNat, by omega⟩
          have hj8 : j < 8 := by omega
          have hby := HY.out k h8
          rw [hj, Int.toNat_natCast] at hby
          have c1 : (w5.drewN d).cell? ⟨w4.heap.size + 1, k, none⟩ = some (.int .u8 (byteAt t k)) := blk_cell (W := w5.drewN d) hB (bytesA_get t k h8)
          have c2 : (w5.drewN d).cell? ⟨w4.heap.size, j, none⟩ = some (.int .u8 (byteAt t k)) := by rw [hby]; exact blk_cell (W := w5.drewN d) hA (bytesA_get x j hj8)
          have c1' : ∀ q, (w5.drewN q).cell? ⟨w4.heap.size + 1, k, none⟩ = some (.int .u8 (byteAt t k)) := fun q => c1
          have c2' : ∀ q, (w5.drewN q).cell? ⟨w4.heap.size, j, none⟩ = some (.int .u8 (byteAt t k)) := fun q => c2
          have s1 : IntKind.i64.wrap ((k : Int) + r) = (k : Int) + r := IntWalk.i64_in _ (by omega)
          have s2 : IntKind.i64.wrap ((k : Int) + r + 8) = (k : Int) + r + 8 := IntWalk.i64_in _ (by omega)
          have s3 : ((k : Int) + r + 8).tmod 8 = (j : Int) := by rw [Int.tmod_eq_emod_of_nonneg (by omega), hj]
          generalize byteAt t k = c at *
          clear hby hA hB hb5 hj
          have i1 : (k : Int) < 8 := by omega
          have i2 : (0 : Int) ≤ (k : Int) := by omega
          have i3 : (j : Int) < 8 := by omega
          have i4 : (0 : Int) ≤ (j : Int) := by omega
          go_wp2_with fail
          go_quiet (fail)
          go_wp2
          go_roundg (gk - 1)
          case measure => have := HK.out; omega
          case rel => exact ⟨k + 1, by have := HK.out; omega, by go_num, d + nq, rfl⟩
        · obtain rfl : k = 8 := by omega
          go_wp2
          go_ret
          exact ⟨rfl, hb5.trans (below_drewN' _ _)⟩

theorem walk_LanesTurns (a0 n : Int) (w : World) (w0 : (Lit.int .u64 a0).wf = true) (w1 : (Lit.int .i64 n).wf = true) :
    Calls Try.prog 4 #[.int .u64 a0, .int .i64 n] w fun e w' => e = .returned (.bool true) ∧ Below w.heap.size w w' := by
  obtain ⟨x, rfl, hx⟩ := nat_of_u64 w0
  obtain ⟨hn0, hn1⟩ := bd_of_i64 w1
  obtain ⟨m, hm⟩ : ∃ m, m = (n % 8).toNat := ⟨_, rfl⟩
  have hturn := fun w => turn_any x n w hx
  rw [← hm] at hturn
  obtain ⟨r, hr⟩ : ∃ r, n.tmod 8 = r := ⟨_, rfl⟩
  have hr1 : r < 8 := by rw [← hr]; exact Int.tmod_lt_of_pos _ (by decide)
  have hr2 : -8 < r := by have := Int.tmod_lt_of_pos (-n) (show (0 : Int) < 8 by decide); rw [Int.neg_tmod, hr] at this; omega
  have hmr : (m : Int) = r % 8 := by have := Int.tmod_add_mul_tdiv n 8; omega
  have hback : ∀ w, Calls Try.prog 16 #[.int .u64 (turnW x m : Nat), .int .i64 (-n)] w fun e w' => e = .returned (.int .u64 x) ∧ w' = w := by
    intro w
    have := turn_any (turnW x m) (-n) w (turnW_lt _ _)
    rw [turnW_turnW x m _ 0 (by omega), turnW_zero x 0 hx rfl] at this
    exact this
  have hb : ∀ k, k < 8 → byteAt (turnW x m) k = byteAt x (((k : Int) + r + 8) % 8).toNat := by
    intro k hk
    rw [byteAt_turnW x m k hk]
    congr 1
    omega
  by_cases hlo : -4611686018427387904 < n
  · by_cases h0 : r = 0
    · exact turns_tt x (turnW x m) m n r w hx (turnW_lt _ _) hn0 hn1 hturn hback hr hr1 hr2 hb (by simp [h0]) (turnW_zero _ _ hx (by omega)) hlo
    · exact turns_ft x (turnW x m) m n r w hx (turnW_lt _ _) hn0 hn1 hturn hback hr hr1 hr2 hb (by simpa using h0) hlo
  · by_cases h0 : r = 0
    · exact turns_tf x (turnW x m) m n r w hx (turnW_lt _ _) hn0 hn1 hturn hback hr hr1 hr2 hb (by simp [h0]) (turnW_zero _ _ hx (by omega)) hlo
    · exact turns_ff x (turnW x m) m n r w hx (turnW_lt _ _) hn0 hn1 hturn hback hr hr1 hr2 hb (by simpa using h0) hlo

end Go.Proofs.Ytfomcnbpkdkohaa
