/-
  Package look: Take, Begin, Step, there.
-/
import Derived.Test.YtoklgjlmjkhmbaaLookD
set_option linter.unusedSimpArgs false
set_option linter.unusedVariables false
set_option maxRecDepth 100000
namespace Go.Proofs.Ytoklgjlmjkhmbaa
open Go.RowKit

def zeroS : Sg := ⟨0, 0, 0, 0, 0, 0, 0, 0, 0, false⟩
theorem zero_sgA : (#[.int .i64 0, .int .i64 0, .int .u64 0, .int .u64 0, .int .u64 0, .int .i64 0, .int .u64 0, .int .u8 0, .int .u64 0, .bool false] : Array Value) = sgA zeroS := rfl
theorem zl_one : (#[.int .i64 0, .int .i64 0, .int .u64 0, .int .u64 0, .int .u64 0, .int .i64 0, .int .u64 0, .int .u8 0, .int .u64 0, .bool false] : Array Value).all (·.oneCell') = true := by kernel_rfl
theorem lget_wrong (s : Sg) (x : Nat) (w : World) (h : SgOk s) (hr : ¬ SgRight s) (hx : x < 2 ^ 64) :
    Calls Try.prog 24 #[.agg (sgA s), .int .u64 x] w fun e w' => e = .returned (.tuple #[.agg (sgA zeroS), .int .i64 280]) ∧ Below w.heap.size w w' := by
  have C := fun w => lcheck_no s w h hr
  have hb0 : Below w.heap.size w ((w.alloc (.cells (sgA s) 33)).alloc (.cells #[.int .i64 0, .int .i64 0, .int .u64 0, .int .u64 0, .int .u64 0, .int .i64 0, .int .u64 0, .int .u8 0, .int .u64 0, .bool false] 33)) := ((Below.refl _ _).alloc (Nat.le_refl _) _).alloc (by simp) _
  have hs0 : ((w.alloc (.cells (sgA s) 33)).alloc (.cells #[.int .i64 0, .int .i64 0, .int .u64 0, .int .u64 0, .int .u64 0, .int .i64 0, .int .u64 0, .int .u8 0, .int .u64 0, .bool false] 33)).heap[w.heap.size]? = some (.cells (sgA s) 33 (0, 0)) := (Below.heap_alloc _ _ _ (by simp)).trans (World.alloc_heap_new _ _)
  have hz0 : ((w.alloc (.cells (sgA s) 33)).alloc (.cells #[.int .i64 0, .int .i64 0, .int .u64 0, .int .u64 0, .int .u64 0, .int .i64 0, .int .u64 0, .int .u8 0, .int .u64 0, .bool false] 33)).heap[w.heap.size + 1]? = some (.cells #[.int .i64 0, .int .i64 0, .int .u64 0, .int .u64 0, .int .u64 0, .int .i64 0, .int .u64 0, .int .u8 0, .int .u64 0, .bool false] 33 (0, 0)) := heap_alloc2_new w _ _
  have C'h := Lib.hid C
  have h'h := Lib.hid h
  have hr'h := Lib.hid hr
  have hx'h := Lib.hid hx
  have hb0'h := Lib.hid hb0
  have hs0'h := Lib.hid hs0
  have hz0'h := Lib.hid hz0
  clear C h hr hx hb0 hs0 hz0
  go_enter Try.func24, Try.ntmps24
  go_wp2_with (first | (refine wpList_load_row rfl _ _ rfl w.heap.size rfl 33 (sgA s) (0, 0) _ hs0'h.out Try.underlying33 rfl infoSg ?_) | (go_at_call 21; refine (C'h.out _).mono ?_; rintro e w2 ⟨rfl, hb2⟩) | (refine wpList_store_row rfl _ _ _ rfl (w.heap.size + 1) _ rfl rfl 33 _ (heap_below hb2 hz0'h.out (lt_of_heap hz0'h.out)) infoSg rfl zl_one ?_))
  have hB2 := below_next hb0'h.out hb2
  have hR := setRow_heap _ _ _ #[.int .i64 0, .int .i64 0, .int .u64 0, .int .u64 0, .int .u64 0, .int .i64 0, .int .u64 0, .int .u8 0, .int .u64 0, .bool false] _ _ (heap_below hb2 hz0'h.out (lt_of_heap hz0'h.out))
  have hB3 := below_setRow' hB2 (show w.heap.size ≤ w.heap.size + 1 by omega) #[.int .i64 0, .int .i64 0, .int .u64 0, .int .u64 0, .int .u64 0, .int .i64 0, .int .u64 0, .int .u8 0, .int .u64 0, .bool false]
  rw [zero_sgA] at hR hB3
  obtain ⟨c0, c1, c2, c3, c4, c5, c6, c7, c8, c9⟩ := SgC.of (s := zeroS) hR
  change bodyPost _ _ _ _ _ (w2.setRow (w.heap.size + 1) (sgA zeroS))
  generalize w2.setRow (w.heap.size + 1) (sgA zeroS) = w3 at *
  refine bodyPost_ret (v := .tuple #[.agg (sgA zeroS), .int .i64 280]) ?_ rfl ⟨rfl, hB3⟩
  simp [results, Try.results24, go_sem, c0, c1, c2, c3, c4, c5, c6, c7, c8, c9, sgA]
theorem lget_over (s : Sg) (x : Nat) (w : World) (h : SgOk s) (hr : SgRight s) (hh : hasS s = false) (hx : x < 2 ^ 64) :
    Calls Try.prog 24 #[.agg (sgA s), .int .u64 x] w fun e w' => e = .returned (.tuple #[.agg (sgA zeroS), .int .i64 4]) ∧ Below w.heap.size w w' := by
  have C := fun w => lcheck_yes s w h hr
  have N := fun w => need_over s w h hr hh
  have hb0 : Below w.heap.size w ((w.alloc (.cells (sgA s) 33)).alloc (.cells #[.int .i64 0, .int .i64 0, .int .u64 0, .int .u64 0, .int .u64 0, .int .i64 0, .int .u64 0, .int .u8 0, .int .u64 0, .bool false] 33)) := ((Below.refl _ _).alloc (Nat.le_refl _) _).alloc (by simp) _
  have hs0 : ((w.alloc (.cells (sgA s) 33)).alloc (.cells #[.int .i64 0, .int .i64 0, .int .u64 0, .int .u64 0, .int .u64 0, .int .i64 0, .int .u64 0, .int .u8 0, .int .u64 0, .bool false] 33)).heap[w.heap.size]? = some (.cells (sgA s) 33 (0, 0)) := (Below.heap_alloc _ _ _ (by simp)).trans (World.alloc_heap_new _ _)
  have hz0 : ((w.alloc (.cells (sgA s) 33)).alloc (.cells #[.int .i64 0, .int .i64 0, .int .u64 0, .int .u64 0, .int .u64 0, .int .i64 0, .int .u64 0, .int .u8 0, .int .u64 0, .bool false] 33)).heap[w.heap.size + 1]? = some (.cells #[.int .i64 0, .int .i64 0, .int .u64 0, .int .u64 0, .int .u64 0, .int .i64 0, .int .u64 0, .int .u8 0, .int .u64 0, .bool false] 33 (0, 0)) := heap_alloc2_new w _ _
  have C'h := Lib.hid C
  have N'h := Lib.hid N
  have h'h := Lib.hid h
  have hr'h := Lib.hid hr
  have hx'h := Lib.hid hx
  have hb0'h := Lib.hid hb0
  have hs0'h := Lib.hid hs0
  have hz0'h := Lib.hid hz0
  have hh'h := Lib.hid hh
  clear C N h hr hx hb0 hs0 hz0 hh
  go_enter Try.func24, Try.ntmps24
  go_wp2_with (first | (refine wpList_load_row rfl _ _ rfl w.heap.size rfl 33 (sgA s) (0, 0) _ hs0'h.out Try.underlying33 rfl infoSg ?_) | (go_at_call 21; refine (C'h.out _).mono ?_; rintro e w2 ⟨rfl, hb2⟩; have hs2 := heap_below hb2 hs0'h.out (lt_of_heap hs0'h.out); have hs2'h := Lib.hid hs2; clear hs2; have hz2 := heap_below hb2 hz0'h.out (lt_of_heap hz0'h.out); have hz2'h := Lib.hid hz2; clear hz2) | (refine wpList_load_row rfl _ _ rfl w.heap.size rfl 33 (sgA s) (0, 0) _ hs2'h.out Try.underlying33 rfl infoSg ?_) | (go_at_call 22; refine (N'h.out _).mono ?_; rintro e w3 ⟨rfl, hb3⟩) | (refine wpList_store_row rfl _ _ _ rfl (w.heap.size + 1) _ rfl rfl 33 _ (heap_below hb3 hz2'h.out (lt_of_heap hz2'h.out)) infoSg rfl zl_one ?_))
  have hB2 := below_next (below_next hb0'h.out hb2) hb3
  have hR := setRow_heap _ _ _ #[.int .i64 0, .int .i64 0, .int .u64 0, .int .u64 0, .int .u64 0, .int .i64 0, .int .u64 0, .int .u8 0, .int .u64 0, .bool false] _ _ (heap_below hb3 hz2'h.out (lt_of_heap hz2'h.out))
  have hB3 := below_setRow' hB2 (show w.heap.size ≤ w.heap.size + 1 by omega) #[.int .i64 0, .int .i64 0, .int .u64 0, .int .u64 0, .int .u64 0, .int .i64 0, .int .u64 0, .int .u8 0, .int .u64 0, .bool false]
  rw [zero_sgA] at hR hB3
  obtain ⟨c0, c1, c2, c3, c4, c5, c6, c7, c8, c9⟩ := SgC.of (s := zeroS) hR
  change bodyPost _ _ _ _ _ (w3.setRow (w.heap.size + 1) (sgA zeroS))
  generalize w3.setRow (w.heap.size + 1) (sgA zeroS) = w4 at *
  refine bodyPost_ret (v := .tuple #[.agg (sgA zeroS), .int .i64 4]) ?_ rfl ⟨rfl, hB3⟩
  simp [results, Try.results24, go_sem, c0, c1, c2, c3, c4, c5, c6, c7, c8, c9, sgA]
theorem lget_yes (s : Sg) (x : Nat) (w : World) (h : SgOk s) (hr : SgRight s) (hh : hasS s = true) (hx : x < 2 ^ 64) :
    Calls Try.prog 24 #[.agg (sgA s), .int .u64 x] w fun e w' => e = .returned (.tuple #[.agg (sgA (takeS s x)), .int .i64 0]) ∧ Below w.heap.size w w' := by
  have C := fun w => lcheck_yes s w h hr
  have N := fun w => need_yes' s w h hr hh
  have K := fun g w hg => ltake_any s x g w h hr hh hx hg
  have hb0 : Below w.heap.size w ((w.alloc (.cells (sgA s) 33)).alloc (.cells #[.int .i64 0, .int .i64 0, .int .u64 0, .int .u64 0, .int .u64 0, .int .i64 0, .int .u64 0, .int .u8 0, .int .u64 0, .bool false] 33)) := ((Below.refl _ _).alloc (Nat.le_refl _) _).alloc (by simp) _
  have hs0 : ((w.alloc (.cells (sgA s) 33)).alloc (.cells #[.int .i64 0, .int .i64 0, .int .u64 0, .int .u64 0, .int .u64 0, .int .i64 0, .int .u64 0, .int .u8 0, .int .u64 0, .bool false] 33)).heap[w.heap.size]? = some (.cells (sgA s) 33 (0, 0)) := (Below.heap_alloc _ _ _ (by simp)).trans (World.alloc_heap_new _ _)
  have hz0 : ((w.alloc (.cells (sgA s) 33)).alloc (.cells #[.int .i64 0, .int .i64 0, .int .u64 0, .int .u64 0, .int .u64 0, .int .i64 0, .int .u64 0, .int .u8 0, .int .u64 0, .bool false] 33)).heap[w.heap.size + 1]? = some (.cells #[.int .i64 0, .int .i64 0, .int .u64 0, .int .u64 0, .int .u64 0, .int .i64 0, .int .u64 0, .int .u8 0, .int .u64 0, .bool false] 33 (0, 0)) := heap_alloc2_new w _ _
  generalize cellS s = cl at *
  generalize takeS s x = s' at *
  have hone := sgA_one s'
  have C'h := Lib.hid C
  have N'h := Lib.hid N
  have h'h := Lib.hid h
  have hr'h := Lib.hid hr
  have hx'h := Lib.hid hx
  have hb0'h := Lib.hid hb0
  have hs0'h := Lib.hid hs0
  have hz0'h := Lib.hid hz0
  have hh'h := Lib.hid hh
  have K'h := Lib.hid K
  have hone'h := Lib.hid hone
  clear C N h hr hx hb0 hs0 hz0 hh K hone
  go_enter Try.func24, Try.ntmps24
  go_wp2_with (first | (refine wpList_load_row rfl _ _ rfl w.heap.size rfl 33 (sgA s) (0, 0) _ hs0'h.out Try.underlying33 rfl infoSg ?_) | (go_at_call 21; refine (C'h.out _).mono ?_; rintro e w2 ⟨rfl, hb2⟩; have hs2 := heap_below hb2 hs0'h.out (lt_of_heap hs0'h.out); have hs2'h := Lib.hid hs2; clear hs2; have hz2 := heap_below hb2 hz0'h.out (lt_of_heap hz0'h.out); have hz2'h := Lib.hid hz2; clear hz2) | (refine wpList_load_row rfl _ _ rfl w.heap.size rfl 33 (sgA s) (0, 0) _ hs2'h.out Try.underlying33 rfl infoSg ?_) | (go_at_call 22; refine (N'h.out _).mono ?_; rintro e w3 ⟨rfl, hb3⟩; have hs3 := heap_below hb3 hs2'h.out (lt_of_heap hs2'h.out); have hs3'h := Lib.hid hs3; clear hs3; have hz3 := heap_below hb3 hz2'h.out (lt_of_heap hz2'h.out); have hz3'h := Lib.hid hz3; clear hz3) | (refine wpList_load_row rfl _ _ rfl w.heap.size rfl 33 (sgA s) (0, 0) _ hs3'h.out Try.underlying33 rfl infoSg ?_) | (refine wpList_value (o := ⟨some 25, _, _, _, _, _⟩) rfl (.agg (sgA s)) (by unfold sgA; kernel_rfl) ?_))
  have hB3 := below_next (below_next hb0'h.out hb2) hb3
  clear hb2 hb3
  have hX : (w3.alloc (.cells (sgA s) 88)).heap[w3.heap.size]? = some (SiB s) := World.alloc_heap_new _ _
  have hzX : (w3.alloc (.cells (sgA s) 88)).heap[w.heap.size + 1]? = some (.cells #[.int .i64 0, .int .i64 0, .int .u64 0, .int .u64 0, .int .u64 0, .int .i64 0, .int .u64 0, .int .u8 0, .int .u64 0, .bool false] 33 (0, 0)) := (Below.heap_alloc _ _ _ (lt_of_heap hz3'h.out)).trans hz3'h.out
  have hBX : Below w.heap.size w (w3.alloc (.cells (sgA s) 88)) := hB3.alloc hB3.size _
  have hne : w.heap.size + 1 ≠ w3.heap.size := by have := lt_of_heap hz3'h.out; omega
  have hle3 := hB3.size
  clear hB3
  have hX'h := Lib.hid hX
  have hzX'h := Lib.hid hzX
  have hBX'h := Lib.hid hBX
  have hne'h := Lib.hid hne
  have hle3'h := Lib.hid hle3
  clear hX hzX hBX hne hle3
  go_wp2_with fail
  refine (K'h.out _ _ hX'h.out).mono ?_
  rintro e w4 ⟨rfl, hX4, hO4⟩
  have hz4 := hO4.heap hne'h.out hzX'h.out
  have hB4 := hBX'h.out.trans (hO4.below hle3'h.out)
  have hR := setRow_heap _ _ _ (sgA s') _ _ hz4
  have hB5 := below_setRow' hB4 (show w.heap.size ≤ w.heap.size + 1 by omega) (sgA s')
  obtain ⟨W5, hW5⟩ : ∃ W5, W5 = w4.setRow (w.heap.size + 1) (sgA s') := ⟨_, rfl⟩
  rw [← hW5] at hR hB5
  clear hO4 hB4
  have hX4'h := Lib.hid hX4
  have hz4'h := Lib.hid hz4
  have hR'h := Lib.hid hR
  have hB5'h := Lib.hid hB5
  have hW5'h := Lib.hid hW5
  clear hX4 hz4 hR hB5 hW5
  go_wp2_with (first | (refine wpList_load_row rfl _ _ rfl w3.heap.size rfl 88 (sgA s') (0, 0) _ hX4'h.out Try.underlying33 rfl infoSg ?_) | (refine wpList_store_row rfl _ _ _ rfl (w.heap.size + 1) (sgA s') rfl rfl 33 _ hz4'h.out infoSg rfl hone'h.out ?_; rw [← hW5'h.out]))
  obtain ⟨c0, c1, c2, c3, c4, c5, c6, c7, c8, c9⟩ := SgC.of hR'h.out
  refine bodyPost_ret (v := .tuple #[.agg (sgA s'), .int .i64 0]) ?_ rfl ⟨rfl, hB5'h.out⟩
  simp [results, Try.results24, go_sem, c0, c1, c2, c3, c4, c5, c6, c7, c8, c9, sgA]
theorem begin_yes (slab : Int) (key hash : Nat) (w : World) (hs : 0 ≤ slab ∧ slab < 128) :
    Calls Try.prog 12 #[.int .i64 slab, .int .u64 key, .int .u64 hash] w fun e w' => e = .returned (.tuple #[.agg (sgA (beginS slab key hash)), .int .i64 0]) ∧ Below w.heap.size w w' := by
  have d1 : decide (slab < 0) = false := by simp; omega
  have d2 : decide ((128 : Int) ≤ slab) = false := by simp; omega
  have hs'h := Lib.hid hs
  clear hs
  go_enter Try.func12, Try.ntmps12
  go_wp2
  have hR : (w.alloc (.cells (sgA (beginS slab key hash)) 33)).heap[w.heap.size]? = some (.cells (sgA (beginS slab key hash)) 33 (0, 0)) := World.alloc_heap_new _ _
  have hB : Below w.heap.size w (w.alloc (.cells (sgA (beginS slab key hash)) 33)) := (Below.refl _ _).alloc (Nat.le_refl _) _
  change bodyPost _ _ _ _ _ (w.alloc (.cells (sgA (beginS slab key hash)) 33))
  obtain ⟨c0, c1, c2, c3, c4, c5, c6, c7, c8, c9⟩ := SgC.of hR
  generalize (w.alloc (.cells (sgA (beginS slab key hash)) 33)) = w4 at *
  refine bodyPost_ret (v := .tuple #[.agg (sgA (beginS slab key hash)), .int .i64 0]) ?_ rfl ⟨rfl, hB⟩
  simp [results, Try.results12, go_sem, c0, c1, c2, c3, c4, c5, c6, c7, c8, c9, sgA]
theorem begin_no (slab : Int) (key hash : Nat) (w : World) (hs : ¬ (0 ≤ slab ∧ slab < 128)) :
    Calls Try.prog 12 #[.int .i64 slab, .int .u64 key, .int .u64 hash] w fun e w' => e = .returned (.tuple #[.agg (sgA zeroS), .int .i64 2]) ∧ Below w.heap.size w w' := by
  have hz0 : (w.alloc (.cells #[.int .i64 0, .int .i64 0, .int .u64 0, .int .u64 0, .int .u64 0, .int .i64 0, .int .u64 0, .int .u8 0, .int .u64 0, .bool false] 33)).heap[w.heap.size]? = some (.cells #[.int .i64 0, .int .i64 0, .int .u64 0, .int .u64 0, .int .u64 0, .int .i64 0, .int .u64 0, .int .u8 0, .int .u64 0, .bool false] 33 (0, 0)) := World.alloc_heap_new _ _
  have hcase : (decide (slab < 0) = true) ∨ (decide (slab < 0) = false ∧ decide ((128 : Int) ≤ slab) = true) := by
    by_cases h0 : slab < 0
    · exact .inl (by simpa using h0)
    · exact .inr ⟨by simpa using h0, by simp; omega⟩
  have hs'h := Lib.hid hs
  have hz0'h := Lib.hid hz0
  clear hs hz0
  rcases hcase with d1 | ⟨d1, d2⟩ <;> (
    go_enter Try.func12, Try.ntmps12
    go_wp2_with (first | (refine wpList_store_row rfl _ _ _ rfl w.heap.size _ rfl rfl 33 _ hz0'h.out infoSg rfl zl_one ?_))
    have hR := setRow_heap _ _ _ #[.int .i64 0, .int .i64 0, .int .u64 0, .int .u64 0, .int .u64 0, .int .i64 0, .int .u64 0, .int .u8 0, .int .u64 0, .bool false] _ _ hz0'h.out
    have hB3 := below_setRow' ((Below.refl _ _).alloc (Nat.le_refl _) (.cells #[.int .i64 0, .int .i64 0, .int .u64 0, .int .u64 0, .int .u64 0, .int .i64 0, .int .u64 0, .int .u8 0, .int .u64 0, .bool false] 33)) (show w.heap.size ≤ w.heap.size by omega) #[.int .i64 0, .int .i64 0, .int .u64 0, .int .u64 0, .int .u64 0, .int .i64 0, .int .u64 0, .int .u8 0, .int .u64 0, .bool false]
    rw [zero_sgA] at hR hB3
    obtain ⟨c0, c1, c2, c3, c4, c5, c6, c7, c8, c9⟩ := SgC.of (s := zeroS) hR
    change bodyPost _ _ _ _ _ ((w.alloc (.cells (sgA zeroS) 33)).setRow w.heap.size (sgA zeroS))
    generalize (w.alloc (.cells (sgA zeroS) 33)).setRow w.heap.size (sgA zeroS) = w4 at *
    refine bodyPost_ret (v := .tuple #[.agg (sgA zeroS), .int .i64 2]) ?_ rfl ⟨rfl, hB3⟩
    simp [results, Try.results12, go_sem, c0, c1, c2, c3, c4, c5, c6, c7, c8, c9, sgA])
/-- What there says. -/
def thereB (n : Nat) (slab : Int) : Bool := decide (0 ≤ slab ∧ slab < 128 ∧ 16 + 40 * slab + 39 < n)
theorem there_any (sp : Option Addr) (n cap : Nat) (slab : Int) (w : World) (hn : n ≤ 9223372036854775807) :
    Calls Try.prog 36 #[.slice sp n cap, .int .i64 slab] w fun e w' => e = .returned (.int .i64 (if 1 ≤ n ∧ n ≤ 8192 then (if thereB n slab = true then 0 else 2) else 120)) ∧ w' = w := by
  have C := fun w => lcells_any sp n cap w hn
  by_cases h1 : 1 ≤ n ∧ n ≤ 8192
  · rw [if_pos h1]
    have e1 : decide (1 ≤ n ∧ n ≤ 8192) = true := by simpa using h1
    rw [e1] at C
    by_cases h2 : 0 ≤ slab ∧ slab < 128
    · obtain ⟨sl, rfl⟩ : ∃ sl : Nat, slab = (sl : Int) := ⟨slab.toNat, by omega⟩
      have L := fun w => cell_yes sl 39 w (by omega) (by decide)
      by_cases h3 : 16 + 40 * sl + 39 < n
      · have e2 : thereB n sl = true := by unfold thereB; simp; omega
        rw [if_pos e2]
        have d1 : decide (n ≤ 16 + 40 * sl + 39) = false := by simp; omega
        generalize 16 + 40 * sl + 39 = q at *
        have C'h := Lib.hid C
        have L'h := Lib.hid L
        have h1'h := Lib.hid h1
        have h2'h := Lib.hid h2
        have h3'h := Lib.hid h3
        have e2'h := Lib.hid e2
        clear C L h1 h2 h3 e2
        go_enter Try.func36, Try.ntmps36
        go_wp2_with (first | (go_at_call 52; refine (C'h.out _).mono ?_; rintro e w2 ⟨rfl, rfl⟩) | (go_at_call 29; refine (L'h.out _).mono ?_; rintro e w2 ⟨rfl, rfl⟩))
        go_ret
        exact ⟨rfl, rfl⟩
      · have e2 : thereB n sl = false := by unfold thereB; simp; omega
        rw [if_neg (by rw [e2]; simp)]
        have d1 : decide (n ≤ 16 + 40 * sl + 39) = true := by simp; omega
        generalize 16 + 40 * sl + 39 = q at *
        have C'h := Lib.hid C
        have L'h := Lib.hid L
        have h1'h := Lib.hid h1
        have h2'h := Lib.hid h2
        have h3'h := Lib.hid h3
        have e2'h := Lib.hid e2
        clear C L h1 h2 h3 e2
        go_enter Try.func36, Try.ntmps36
        go_wp2_with (first | (go_at_call 52; refine (C'h.out _).mono ?_; rintro e w2 ⟨rfl, rfl⟩) | (go_at_call 29; refine (L'h.out _).mono ?_; rintro e w2 ⟨rfl, rfl⟩))
        go_ret
        exact ⟨rfl, rfl⟩
    · have e2 : thereB n slab = false := by unfold thereB; simp; omega
      rw [if_neg (by rw [e2]; simp)]
      have L := fun w => cell_no slab 39 w h2
      have C'h := Lib.hid C
      have L'h := Lib.hid L
      have h1'h := Lib.hid h1
      have h2'h := Lib.hid h2
      have e2'h := Lib.hid e2
      clear C L h1 h2 e2
      go_enter Try.func36, Try.ntmps36
      go_wp2_with (first | (go_at_call 52; refine (C'h.out _).mono ?_; rintro e w2 ⟨rfl, rfl⟩) | (go_at_call 29; refine (L'h.out _).mono ?_; rintro e w2 ⟨rfl, rfl⟩))
      go_ret
      exact ⟨rfl, rfl⟩
  · rw [if_neg h1]
    have e1 : decide (1 ≤ n ∧ n ≤ 8192) = false := by simpa using h1
    rw [e1] at C
    have C'h := Lib.hid C
    have h1'h := Lib.hid h1
    clear C h1
    go_enter Try.func36, Try.ntmps36
    go_wp2_with (first | (go_at_call 52; refine (C'h.out _).mono ?_; rintro e w2 ⟨rfl, rfl⟩))
    go_ret
    exact ⟨rfl, rfl⟩
end Go.Proofs.Ytoklgjlmjkhmbaa
