/-
  The layer does something: the law's first test is true.
-/
import Derived.Test.YtpfpgjfcomkdgaaHashE
set_option linter.unusedSimpArgs false
set_option linter.unusedVariables false
namespace Go.Proofs.Ytpfpgjfcomkdgaa
open Go.RowKit Go.Maps

theorem MapI.len {w : World} {b : Nat} {m : List (Nat × Int)} (h : MapI w b m) (ty : TypeId) : (Builtin.len_ #[42] ty #[.map (some b)]).run Try.prog w = .ok (.int .i64 (msize m)) w := by
  have := h.1.len Try.underlying42 ty
  rwa [size_mapD m h.2] at this

theorem wake_p1 (w : World) : Calls Try.prog 18 #[.int .u64 9223372036854775808, .int .i64 1] w fun e w' => e = .returned (.tuple #[.int .u64 1, .int .i64 0]) ∧ w' = w := by
  refine (prefix_yes 9223372036854775808 1 w (by decide) (by decide)).mono fun e w' ⟨he, hb⟩ => ⟨?_, hb⟩
  have h1 : hPrefix 9223372036854775808 1 = 1 := by decide +kernel
  rw [he, h1]; rfl
theorem wake_p2 (w : World) : Calls Try.prog 18 #[.int .u64 1, .int .i64 65] w fun e w' => e = .returned (.tuple #[.int .u64 0, .int .i64 2]) ∧ w' = w := by
  exact prefix_no 1 65 w (by decide)
theorem w343 : W64 [3, 4, 3] := by intro k hk; simp at hk; omega
theorem wake_crowd (w : World) (b : Nat) (t : TypeId) (h : w.heap[b]? = some (.cells #[.int .u64 3, .int .u64 4, .int .u64 3] t)) :
    Calls Try.prog 24 #[.int .u64 1, .int .i64 0, .slice (some ⟨b, 0, none⟩) 3 3] w fun e w' => ∃ mb m, e = .returned (.tuple #[.map (some mb), .int .i64 0]) ∧ msize m = 1 ∧ mget m 0 = 2 ∧ MapI w' mb m ∧ Below w.heap.size w w' := by
  have hS : Sl w (some ⟨b, 0, none⟩) 3 (u64s [3, 4, 3]) := Sl.of_blk h (by decide)
  refine (crowd_yes 1 0 3 3 (some ⟨b, 0, none⟩) [3, 4, 3] w (by decide) w343 (by decide) hS (by decide)).mono ?_
  rintro e w' ⟨mb, rfl, hmb, hM, hb⟩
  exact ⟨mb, _, rfl, by decide +kernel, by decide +kernel, hM, hb⟩
theorem wake_deep (w : World) (b : Nat) (t : TypeId) (h : w.heap[b]? = some (.cells #[.int .u64 3, .int .u64 4, .int .u64 3] t)) :
    Calls Try.prog 26 #[.int .u64 1, .int .i64 1, .slice (some ⟨b, 0, none⟩) 3 3] w fun e w' => ∃ d : Nat, e = .returned (.tuple #[.int .i64 d, .int .i64 0]) ∧ 0 < d ∧ d ≤ 64 ∧ Below w.heap.size w w' := by
  have hS : Sl w (some ⟨b, 0, none⟩) 3 (u64s [3, 4, 3]) := Sl.of_blk h (by decide)
  refine (deepest_yes 1 3 3 1 (some ⟨b, 0, none⟩) [3, 4, 3] w (by decide) w343 (by decide) hS (by decide)).mono ?_
  rintro e w' ⟨d, rfl, h64, hd, _, hb⟩
  refine ⟨d, rfl, ?_, h64, hb⟩
  have h0 : overN 1 [3, 4, 3] 1 0 = true := by decide +kernel
  refine Nat.pos_of_ne_zero fun e => ?_
  subst e; rw [h0] at hd; cases hd
theorem wake_of (w : World) : Calls Try.prog 10 #[.int .u64 5, .int .u64 5] w fun e w' => e = .returned (.int .u64 0) ∧ w' = w := by
  refine (of_any 5 5 w (by decide) (by decide)).mono fun e w' ⟨he, hb⟩ => ⟨?_, hb⟩
  have h1 : hOf 5 5 = 0 := by decide +kernel
  rw [he, h1]; rfl
theorem wake_key (w : World) : Calls Try.prog 12 #[.int .u64 5, .int .u64 0] w fun e w' => e = .returned (.int .u64 5) ∧ w' = w := by
  refine (key_any 5 0 w (by decide) (by decide)).mono fun e w' ⟨he, hb⟩ => ⟨?_, hb⟩
  have h1 : hKey 5 0 = 5 := by decide +kernel
  rw [he, h1]; rfl
theorem wake_h1 (w : World) : Calls Try.prog 14 #[.int .u64 256] w fun e w' => e = .returned (.int .u64 2) ∧ w' = w := h1_any 256 w
theorem wake_h2 (w : World) : Calls Try.prog 16 #[.int .u64 255] w fun e w' => e = .returned (.int .u8 127) ∧ w' = w := h2_any 255 w (by decide)
theorem wake_parts (w : World) : Calls Try.prog 21 #[.int .u64 6, .int .u64 7] w fun e w' => e = .returned (.int .i64 63) ∧ w' = w := by
  refine (parts_any 6 7 w (by decide) (by decide)).mono fun e w' ⟨he, hb⟩ => ⟨?_, hb⟩
  have h1 : hParts 6 7 = 63 := by decide +kernel
  rw [he, h1]; rfl

set_option maxHeartbeats 1000000 in
theorem wakes_any (w : World) : Calls Try.prog 9 #[] w fun e w' => e = .returned (.bool true) ∧ Below w.heap.size w w' := by
  go_enter Try.func9, Try.ntmps9
  go_wp2_with fail
  refine (wake_p1 _).mono ?_
  rintro e w' ⟨rfl, rfl⟩
  go_wp2_with fail
  refine (wake_p2 _).mono ?_
  rintro e w' ⟨rfl, rfl⟩
  go_wp2_with fail
  refine (wake_crowd _ _ _ (World.alloc_heap_new _ _)).mono ?_
  rintro e w1 ⟨mb, m, rfl, hm1, hm2, hM, hb1⟩
  have HM := Lib.hid hM
  have HB1 := Lib.hid hb1
  have H1 := Lib.hid hm1
  have H2 := Lib.hid hm2
  clear hM hb1 hm1 hm2
  go_wp2_with fail
  refine (wake_deep _ _ _ (World.alloc_heap_new _ _)).mono ?_
  rintro e w2 ⟨d, rfl, hd0, hd64, hb2⟩
  have hbw : Below w'.heap.size w' w1 := (((Below.refl _ w').alloc (Nat.le_refl _) _).trans (HB1.out.mono (by simp)))
  have hb12 : Below w1.heap.size w1 w2 := (((Below.refl _ w1).alloc (Nat.le_refl _) _).trans (hb2.mono (by simp)))
  have hM2 : MapI w2 mb m := HM.out.heap (hb12.block _ HM.out.lt)
  have hl := hM2.len 3
  have hk := hM2.look 0 (by decide)
  rw [H1.out] at hl
  rw [H2.out, show ((0 : Nat) : Int) = 0 from rfl] at hk
  have hdd : decide (0 < (d : Int)) = true := by simp; omega
  have HB := Lib.hid (hbw.trans (hb12.mono hbw.size))
  clear hM2 hb12 hbw hb2 HM
  go_wp2_with (first | (go_at_call 10; refine (wake_of _).mono ?_; rintro e w' ⟨rfl, rfl⟩) | (go_at_call 12; refine (wake_key _).mono ?_; rintro e w' ⟨rfl, rfl⟩) | (go_at_call 14; refine (wake_h1 _).mono ?_; rintro e w' ⟨rfl, rfl⟩) | (go_at_call 16; refine (wake_h2 _).mono ?_; rintro e w' ⟨rfl, rfl⟩) | (go_at_call 21; refine (wake_parts _).mono ?_; rintro e w' ⟨rfl, rfl⟩))
  go_ret
  exact ⟨rfl, HB.out⟩
end Go.Proofs.Ytpfpgjfcomkdgaa
