/-
  Package look: Step and Run.
-/
import Derived.Test.YtoklgjlmjkhmbaaLookE
import Derived.ScopeJumps
import Derived.Deep.RegionLaw
set_option linter.unusedSimpArgs false
set_option linter.unusedVariables false
set_option maxRecDepth 100000
namespace Go.Proofs.Ytoklgjlmjkhmbaa
open Go.RowKit

theorem run_storeCells_row {P : Program} (w : World) (g : Nat) (t : TypeId) (old cells : Array Value) (hg : w.heap[g]? = some (.cells old t (0, 0))) (ho : old.size = cells.size) (h1 : cells.all (·.oneCell') = true) :
    (storeCells ⟨g, 0, none⟩ cells.toList).run P w = .ok () (w.setRow g cells) := by
  have := run_storeCells_from (P := P) g t cells.toList 0 old w hg (by simp; omega) (fun v hv => (Array.all_eq_true_iff_forall_mem.1 h1) v (by simpa using hv))
  simpa using this
theorem step_cells (sp : Option Addr) (n cap : Nat) (s : Sg) (w : World) (hn : n ≤ 9223372036854775807) (h : SgOk s) (hc : ¬ (1 ≤ n ∧ n ≤ 8192)) :
    Calls Try.prog 26 #[.slice sp n cap, .agg (sgA s)] w fun e w' => e = .returned (.tuple #[.agg (sgA zeroS), .int .i64 120]) ∧ Below w.heap.size w w' := by
  have L := fun w => lcells_any sp n cap w hn
  have e1 : decide (1 ≤ n ∧ n ≤ 8192) = false := by simpa using hc
  rw [e1] at L
  have hb0 : Below w.heap.size w ((w.alloc (.cells (sgA s) 33)).alloc (.cells #[.int .i64 0, .int .i64 0, .int .u64 0, .int .u64 0, .int .u64 0, .int .i64 0, .int .u64 0, .int .u8 0, .int .u64 0, .bool false] 33)) := ((Below.refl _ _).alloc (Nat.le_refl _) _).alloc (by simp) _
  have hs0 : ((w.alloc (.cells (sgA s) 33)).alloc (.cells #[.int .i64 0, .int .i64 0, .int .u64 0, .int .u64 0, .int .u64 0, .int .i64 0, .int .u64 0, .int .u8 0, .int .u64 0, .bool false] 33)).heap[w.heap.size]? = some (.cells (sgA s) 33 (0, 0)) := (Below.heap_alloc _ _ _ (by simp)).trans (World.alloc_heap_new _ _)
  have hz0 : ((w.alloc (.cells (sgA s) 33)).alloc (.cells #[.int .i64 0, .int .i64 0, .int .u64 0, .int .u64 0, .int .u64 0, .int .i64 0, .int .u64 0, .int .u8 0, .int .u64 0, .bool false] 33)).heap[w.heap.size + 1]? = some (.cells #[.int .i64 0, .int .i64 0, .int .u64 0, .int .u64 0, .int .u64 0, .int .i64 0, .int .u64 0, .int .u8 0, .int .u64 0, .bool false] 33 (0, 0)) := heap_alloc2_new w _ _
  have L'h := Lib.hid L
  have h'h := Lib.hid h
  have hc'h := Lib.hid hc
  have hb0'h := Lib.hid hb0
  have hs0'h := Lib.hid hs0
  have hz0'h := Lib.hid hz0
  have e1'h := Lib.hid e1
  clear L h hc hb0 hs0 hz0 e1
  go_enter Try.func26, Try.ntmps26
  go_wp2_with (first | (go_at_call 52; refine (L'h.out _).mono ?_; rintro e w1 ⟨rfl, rfl⟩) | (refine wpList_store_row rfl _ _ _ rfl (w.heap.size + 1) _ rfl rfl 33 _ hz0'h.out infoSg rfl zl_one ?_))
  have hR := setRow_heap _ _ _ #[.int .i64 0, .int .i64 0, .int .u64 0, .int .u64 0, .int .u64 0, .int .i64 0, .int .u64 0, .int .u8 0, .int .u64 0, .bool false] _ _ hz0'h.out
  have hBz := below_setRow' hb0'h.out (show w.heap.size ≤ w.heap.size + 1 by omega) #[.int .i64 0, .int .i64 0, .int .u64 0, .int .u64 0, .int .u64 0, .int .i64 0, .int .u64 0, .int .u8 0, .int .u64 0, .bool false]
  obtain ⟨w9, hw9⟩ : ∃ w9, w9 = ((w.alloc (.cells (sgA s) 33)).alloc (.cells #[.int .i64 0, .int .i64 0, .int .u64 0, .int .u64 0, .int .u64 0, .int .i64 0, .int .u64 0, .int .u8 0, .int .u64 0, .bool false] 33)).setRow (w.heap.size + 1) #[.int .i64 0, .int .i64 0, .int .u64 0, .int .u64 0, .int .u64 0, .int .i64 0, .int .u64 0, .int .u8 0, .int .u64 0, .bool false] := ⟨_, rfl⟩
  rw [← hw9] at hR hBz
  change bodyPost _ _ _ _ _ (((w.alloc (.cells (sgA s) 33)).alloc (.cells #[.int .i64 0, .int .i64 0, .int .u64 0, .int .u64 0, .int .u64 0, .int .i64 0, .int .u64 0, .int .u8 0, .int .u64 0, .bool false] 33)).setRow (w.heap.size + 1) #[.int .i64 0, .int .i64 0, .int .u64 0, .int .u64 0, .int .u64 0, .int .i64 0, .int .u64 0, .int .u8 0, .int .u64 0, .bool false])
  rw [← hw9]
  obtain ⟨c0, c1, c2, c3, c4, c5, c6, c7, c8, c9⟩ := SgC.of (s := zeroS) hR
  refine bodyPost_ret (v := .tuple #[.agg (sgA zeroS), .int .i64 120]) ?_ rfl ⟨rfl, hBz⟩
  simp [results, Try.results26, go_sem, c0, c1, c2, c3, c4, c5, c6, c7, c8, c9, sgA]
theorem step_wrong (sp : Option Addr) (n cap : Nat) (s : Sg) (w : World) (hn : n ≤ 9223372036854775807) (h : SgOk s) (hc : 1 ≤ n ∧ n ≤ 8192) (hr : ¬ SgRight s) :
    Calls Try.prog 26 #[.slice sp n cap, .agg (sgA s)] w fun e w' => e = .returned (.tuple #[.agg (sgA zeroS), .int .i64 280]) ∧ Below w.heap.size w w' := by
  have L := fun w => lcells_any sp n cap w hn
  have e1 : decide (1 ≤ n ∧ n ≤ 8192) = true := by simpa using hc
  rw [e1] at L
  have C := fun w => lcheck_no s w h hr
  have hb0 : Below w.heap.size w ((w.alloc (.cells (sgA s) 33)).alloc (.cells #[.int .i64 0, .int .i64 0, .int .u64 0, .int .u64 0, .int .u64 0, .int .i64 0, .int .u64 0, .int .u8 0, .int .u64 0, .bool false] 33)) := ((Below.refl _ _).alloc (Nat.le_refl _) _).alloc (by simp) _
  have hs0 : ((w.alloc (.cells (sgA s) 33)).alloc (.cells #[.int .i64 0, .int .i64 0, .int .u64 0, .int .u64 0, .int .u64 0, .int .i64 0, .int .u64 0, .int .u8 0, .int .u64 0, .bool false] 33)).heap[w.heap.size]? = some (.cells (sgA s) 33 (0, 0)) := (Below.heap_alloc _ _ _ (by simp)).trans (World.alloc_heap_new _ _)
  have hz0 : ((w.alloc (.cells (sgA s) 33)).alloc (.cells #[.int .i64 0, .int .i64 0, .int .u64 0, .int .u64 0, .int .u64 0, .int .i64 0, .int .u64 0, .int .u8 0, .int .u64 0, .bool false] 33)).heap[w.heap.size + 1]? = some (.cells #[.int .i64 0, .int .i64 0, .int .u64 0, .int .u64 0, .int .u64 0, .int .i64 0, .int .u64 0, .int .u8 0, .int .u64 0, .bool false] 33 (0, 0)) := heap_alloc2_new w _ _
  have L'h := Lib.hid L
  have C'h := Lib.hid C
  have h'h := Lib.hid h
  have hc'h := Lib.hid hc
  have hr'h := Lib.hid hr
  have hb0'h := Lib.hid hb0
  have hs0'h := Lib.hid hs0
  have hz0'h := Lib.hid hz0
  have e1'h := Lib.hid e1
  clear L C h hc hr hb0 hs0 hz0 e1
  go_enter Try.func26, Try.ntmps26
  go_wp2_with (first | (go_at_call 52; refine (L'h.out _).mono ?_; rintro e w1 ⟨rfl, rfl⟩) | (refine wpList_load_row rfl _ _ rfl w.heap.size rfl 33 (sgA s) (0, 0) _ hs0'h.out Try.underlying33 rfl infoSg ?_) | (go_at_call 21; refine (C'h.out _).mono ?_; rintro e w2 ⟨rfl, hb2⟩; have hs2 := heap_below hb2 hs0'h.out (lt_of_heap hs0'h.out); have hs2'h := Lib.hid hs2; clear hs2; have hz2 := heap_below hb2 hz0'h.out (lt_of_heap hz0'h.out); have hz2'h := Lib.hid hz2; clear hz2; have hB2 := below_next hb0'h.out hb2; clear hb2; have hB2'h := Lib.hid hB2; clear hB2) | (refine wpList_store_row rfl _ _ _ rfl (w.heap.size + 1) _ rfl rfl 33 _ hz2'h.out infoSg rfl zl_one ?_))
  have hR := setRow_heap _ _ _ #[.int .i64 0, .int .i64 0, .int .u64 0, .int .u64 0, .int .u64 0, .int .i64 0, .int .u64 0, .int .u8 0, .int .u64 0, .bool false] _ _ hz2'h.out
  have hBz := below_setRow' hB2'h.out (show w.heap.size ≤ w.heap.size + 1 by omega) #[.int .i64 0, .int .i64 0, .int .u64 0, .int .u64 0, .int .u64 0, .int .i64 0, .int .u64 0, .int .u8 0, .int .u64 0, .bool false]
  obtain ⟨w9, hw9⟩ : ∃ w9, w9 = w2.setRow (w.heap.size + 1) #[.int .i64 0, .int .i64 0, .int .u64 0, .int .u64 0, .int .u64 0, .int .i64 0, .int .u64 0, .int .u8 0, .int .u64 0, .bool false] := ⟨_, rfl⟩
  rw [← hw9] at hR hBz
  change bodyPost _ _ _ _ _ (w2.setRow (w.heap.size + 1) #[.int .i64 0, .int .i64 0, .int .u64 0, .int .u64 0, .int .u64 0, .int .i64 0, .int .u64 0, .int .u8 0, .int .u64 0, .bool false])
  rw [← hw9]
  obtain ⟨c0, c1, c2, c3, c4, c5, c6, c7, c8, c9⟩ := SgC.of (s := zeroS) hR
  refine bodyPost_ret (v := .tuple #[.agg (sgA zeroS), .int .i64 280]) ?_ rfl ⟨rfl, hBz⟩
  simp [results, Try.results26, go_sem, c0, c1, c2, c3, c4, c5, c6, c7, c8, c9, sgA]
theorem step_over (sp : Option Addr) (n cap : Nat) (s : Sg) (w : World) (hn : n ≤ 9223372036854775807) (h : SgOk s) (hc : 1 ≤ n ∧ n ≤ 8192) (hr : SgRight s) (hh : hasS s = false) :
    Calls Try.prog 26 #[.slice sp n cap, .agg (sgA s)] w fun e w' => e = .returned (.tuple #[.agg (sgA s), .int .i64 0]) ∧ Below w.heap.size w w' := by
  have L := fun w => lcells_any sp n cap w hn
  have e1 : decide (1 ≤ n ∧ n ≤ 8192) = true := by simpa using hc
  rw [e1] at L
  have C := fun w => lcheck_yes s w h hr
  have N := fun w => need_over s w h hr hh
  have hone := sgA_one s
  have hb0 : Below w.heap.size w ((w.alloc (.cells (sgA s) 33)).alloc (.cells #[.int .i64 0, .int .i64 0, .int .u64 0, .int .u64 0, .int .u64 0, .int .i64 0, .int .u64 0, .int .u8 0, .int .u64 0, .bool false] 33)) := ((Below.refl _ _).alloc (Nat.le_refl _) _).alloc (by simp) _
  have hs0 : ((w.alloc (.cells (sgA s) 33)).alloc (.cells #[.int .i64 0, .int .i64 0, .int .u64 0, .int .u64 0, .int .u64 0, .int .i64 0, .int .u64 0, .int .u8 0, .int .u64 0, .bool false] 33)).heap[w.heap.size]? = some (.cells (sgA s) 33 (0, 0)) := (Below.heap_alloc _ _ _ (by simp)).trans (World.alloc_heap_new _ _)
  have hz0 : ((w.alloc (.cells (sgA s) 33)).alloc (.cells #[.int .i64 0, .int .i64 0, .int .u64 0, .int .u64 0, .int .u64 0, .int .i64 0, .int .u64 0, .int .u8 0, .int .u64 0, .bool false] 33)).heap[w.heap.size + 1]? = some (.cells #[.int .i64 0, .int .i64 0, .int .u64 0, .int .u64 0, .int .u64 0, .int .i64 0, .int .u64 0, .int .u8 0, .int .u64 0, .bool false] 33 (0, 0)) := heap_alloc2_new w _ _
  have L'h := Lib.hid L
  have C'h := Lib.hid C
  have N'h := Lib.hid N
  have h'h := Lib.hid h
  have hc'h := Lib.hid hc
  have hr'h := Lib.hid hr
  have hb0'h := Lib.hid hb0
  have hs0'h := Lib.hid hs0
  have hz0'h := Lib.hid hz0
  have e1'h := Lib.hid e1
  have hh'h := Lib.hid hh
  have hone'h := Lib.hid hone
  clear L C N h hc hr hb0 hs0 hz0 e1 hh hone
  go_enter Try.func26, Try.ntmps26
  go_wp2_with (first | (go_at_call 52; refine (L'h.out _).mono ?_; rintro e w1 ⟨rfl, rfl⟩) | (refine wpList_load_row rfl _ _ rfl w.heap.size rfl 33 (sgA s) (0, 0) _ hs0'h.out Try.underlying33 rfl infoSg ?_) | (go_at_call 21; refine (C'h.out _).mono ?_; rintro e w2 ⟨rfl, hb2⟩; have hs2 := heap_below hb2 hs0'h.out (lt_of_heap hs0'h.out); have hs2'h := Lib.hid hs2; clear hs2; have hz2 := heap_below hb2 hz0'h.out (lt_of_heap hz0'h.out); have hz2'h := Lib.hid hz2; clear hz2; have hB2 := below_next hb0'h.out hb2; clear hb2; have hB2'h := Lib.hid hB2; clear hB2) | (refine wpList_load_row rfl _ _ rfl w.heap.size rfl 33 (sgA s) (0, 0) _ hs2'h.out Try.underlying33 rfl infoSg ?_) | (go_at_call 22; refine (N'h.out _).mono ?_; rintro e w3 ⟨rfl, hb3⟩; have hs3 := heap_below hb3 hs2'h.out (lt_of_heap hs2'h.out); have hs3'h := Lib.hid hs3; clear hs3; have hz3 := heap_below hb3 hz2'h.out (lt_of_heap hz2'h.out); have hz3'h := Lib.hid hz3; clear hz3; have hB3 := below_next hB2'h.out hb3; clear hb3; have hB3'h := Lib.hid hB3; clear hB3) | (refine wpList_load_row rfl _ _ rfl w.heap.size rfl 33 (sgA s) (0, 0) _ hs3'h.out Try.underlying33 rfl infoSg ?_) | (refine wpList_store_row rfl _ _ _ rfl (w.heap.size + 1) (sgA s) rfl rfl 33 _ hz3'h.out infoSg rfl hone'h.out ?_))
  have hR := setRow_heap _ _ _ (sgA s) _ _ hz3'h.out
  have hBz := below_setRow' hB3'h.out (show w.heap.size ≤ w.heap.size + 1 by omega) (sgA s)
  obtain ⟨c0, c1, c2, c3, c4, c5, c6, c7, c8, c9⟩ := SgC.of hR
  generalize w3.setRow (w.heap.size + 1) (sgA s) = w9 at *
  refine bodyPost_ret (v := .tuple #[.agg (sgA s), .int .i64 0]) ?_ rfl ⟨rfl, hBz⟩
  simp [results, Try.results26, go_sem, c0, c1, c2, c3, c4, c5, c6, c7, c8, c9, sgA]
theorem step_far (sp : Option Addr) (n cap : Nat) (s : Sg) (w : World) (hn : n ≤ 9223372036854775807) (h : SgOk s) (hc : 1 ≤ n ∧ n ≤ 8192) (hr : SgRight s) (hh : hasS s = true) (hf : n ≤ cellS s) :
    Calls Try.prog 26 #[.slice sp n cap, .agg (sgA s)] w fun e w' => e = .returned (.tuple #[.agg (sgA zeroS), .int .i64 2]) ∧ Below w.heap.size w w' := by
  have L := fun w => lcells_any sp n cap w hn
  have e1 : decide (1 ≤ n ∧ n ≤ 8192) = true := by simpa using hc
  rw [e1] at L
  have C := fun w => lcheck_yes s w h hr
  have N := fun w => need_yes' s w h hr hh
  have hb0 : Below w.heap.size w ((w.alloc (.cells (sgA s) 33)).alloc (.cells #[.int .i64 0, .int .i64 0, .int .u64 0, .int .u64 0, .int .u64 0, .int .i64 0, .int .u64 0, .int .u8 0, .int .u64 0, .bool false] 33)) := ((Below.refl _ _).alloc (Nat.le_refl _) _).alloc (by simp) _
  have hs0 : ((w.alloc (.cells (sgA s) 33)).alloc (.cells #[.int .i64 0, .int .i64 0, .int .u64 0, .int .u64 0, .int .u64 0, .int .i64 0, .int .u64 0, .int .u8 0, .int .u64 0, .bool false] 33)).heap[w.heap.size]? = some (.cells (sgA s) 33 (0, 0)) := (Below.heap_alloc _ _ _ (by simp)).trans (World.alloc_heap_new _ _)
  have hz0 : ((w.alloc (.cells (sgA s) 33)).alloc (.cells #[.int .i64 0, .int .i64 0, .int .u64 0, .int .u64 0, .int .u64 0, .int .i64 0, .int .u64 0, .int .u8 0, .int .u64 0, .bool false] 33)).heap[w.heap.size + 1]? = some (.cells #[.int .i64 0, .int .i64 0, .int .u64 0, .int .u64 0, .int .u64 0, .int .i64 0, .int .u64 0, .int .u8 0, .int .u64 0, .bool false] 33 (0, 0)) := heap_alloc2_new w _ _
  generalize cellS s = cl at *
  have d1 : decide (n ≤ cl) = true := by simpa using hf
  have L'h := Lib.hid L
  have C'h := Lib.hid C
  have N'h := Lib.hid N
  have h'h := Lib.hid h
  have hc'h := Lib.hid hc
  have hr'h := Lib.hid hr
  have hb0'h := Lib.hid hb0
  have hs0'h := Lib.hid hs0
  have hz0'h := Lib.hid hz0
  have e1'h := Lib.hid e1
  have hh'h := Lib.hid hh
  have hf'h := Lib.hid hf
  clear L C N h hc hr hb0 hs0 hz0 e1 hh hf
  go_enter Try.func26, Try.ntmps26
  go_wp2_with (first | (go_at_call 52; refine (L'h.out _).mono ?_; rintro e w1 ⟨rfl, rfl⟩) | (refine wpList_load_row rfl _ _ rfl w.heap.size rfl 33 (sgA s) (0, 0) _ hs0'h.out Try.underlying33 rfl infoSg ?_) | (go_at_call 21; refine (C'h.out _).mono ?_; rintro e w2 ⟨rfl, hb2⟩; have hs2 := heap_below hb2 hs0'h.out (lt_of_heap hs0'h.out); have hs2'h := Lib.hid hs2; clear hs2; have hz2 := heap_below hb2 hz0'h.out (lt_of_heap hz0'h.out); have hz2'h := Lib.hid hz2; clear hz2; have hB2 := below_next hb0'h.out hb2; clear hb2; have hB2'h := Lib.hid hB2; clear hB2) | (refine wpList_load_row rfl _ _ rfl w.heap.size rfl 33 (sgA s) (0, 0) _ hs2'h.out Try.underlying33 rfl infoSg ?_) | (go_at_call 22; refine (N'h.out _).mono ?_; rintro e w3 ⟨rfl, hb3⟩; have hs3 := heap_below hb3 hs2'h.out (lt_of_heap hs2'h.out); have hs3'h := Lib.hid hs3; clear hs3; have hz3 := heap_below hb3 hz2'h.out (lt_of_heap hz2'h.out); have hz3'h := Lib.hid hz3; clear hz3; have hB3 := below_next hB2'h.out hb3; clear hb3; have hB3'h := Lib.hid hB3; clear hB3) | (refine wpList_store_row rfl _ _ _ rfl (w.heap.size + 1) _ rfl rfl 33 _ hz3'h.out infoSg rfl zl_one ?_))
  have hR := setRow_heap _ _ _ #[.int .i64 0, .int .i64 0, .int .u64 0, .int .u64 0, .int .u64 0, .int .i64 0, .int .u64 0, .int .u8 0, .int .u64 0, .bool false] _ _ hz3'h.out
  have hBz := below_setRow' hB3'h.out (show w.heap.size ≤ w.heap.size + 1 by omega) #[.int .i64 0, .int .i64 0, .int .u64 0, .int .u64 0, .int .u64 0, .int .i64 0, .int .u64 0, .int .u8 0, .int .u64 0, .bool false]
  obtain ⟨w9, hw9⟩ : ∃ w9, w9 = w3.setRow (w.heap.size + 1) #[.int .i64 0, .int .i64 0, .int .u64 0, .int .u64 0, .int .u64 0, .int .i64 0, .int .u64 0, .int .u8 0, .int .u64 0, .bool false] := ⟨_, rfl⟩
  rw [← hw9] at hR hBz
  change bodyPost _ _ _ _ _ (w3.setRow (w.heap.size + 1) #[.int .i64 0, .int .i64 0, .int .u64 0, .int .u64 0, .int .u64 0, .int .i64 0, .int .u64 0, .int .u8 0, .int .u64 0, .bool false])
  rw [← hw9]
  obtain ⟨c0, c1, c2, c3, c4, c5, c6, c7, c8, c9⟩ := SgC.of (s := zeroS) hR
  refine bodyPost_ret (v := .tuple #[.agg (sgA zeroS), .int .i64 2]) ?_ rfl ⟨rfl, hBz⟩
  simp [results, Try.results26, go_sem, c0, c1, c2, c3, c4, c5, c6, c7, c8, c9, sgA]
theorem step_yes (sp : Option Addr) (n cap : Nat) (s : Sg) (w : World) (hn : n ≤ 9223372036854775807) (h : SgOk s) (ws : List Nat) (h64 : W64 ws) (hS : Sl w sp n (u64s ws)) (hc : 1 ≤ n ∧ n ≤ 8192) (hr : SgRight s) (hh : hasS s = true) (hf : cellS s < n) :
    Calls Try.prog 26 #[.slice sp n cap, .agg (sgA s)] w fun e w' => e = .returned (.tuple #[.agg (sgA (takeS s (nthN ws (cellS s)))), .int .i64 0]) ∧ Below w.heap.size w w' := by
  have L := fun w => lcells_any sp n cap w hn
  have e1 : decide (1 ≤ n ∧ n ≤ 8192) = true := by simpa using hc
  rw [e1] at L
  have C := fun w => lcheck_yes s w h hr
  have N := fun w => need_yes' s w h hr hh
  have hlen : n = ws.length := by have := hS.1; rwa [u64s_length] at this
  have K := fun w => lget_yes s (nthN ws (cellS s)) w h hr hh (h64 _ (nthN_mem (by omega)))
  have hb0 : Below w.heap.size w ((w.alloc (.cells (sgA s) 33)).alloc (.cells #[.int .i64 0, .int .i64 0, .int .u64 0, .int .u64 0, .int .u64 0, .int .i64 0, .int .u64 0, .int .u8 0, .int .u64 0, .bool false] 33)) := ((Below.refl _ _).alloc (Nat.le_refl _) _).alloc (by simp) _
  have hs0 : ((w.alloc (.cells (sgA s) 33)).alloc (.cells #[.int .i64 0, .int .i64 0, .int .u64 0, .int .u64 0, .int .u64 0, .int .i64 0, .int .u64 0, .int .u8 0, .int .u64 0, .bool false] 33)).heap[w.heap.size]? = some (.cells (sgA s) 33 (0, 0)) := (Below.heap_alloc _ _ _ (by simp)).trans (World.alloc_heap_new _ _)
  have hz0 : ((w.alloc (.cells (sgA s) 33)).alloc (.cells #[.int .i64 0, .int .i64 0, .int .u64 0, .int .u64 0, .int .u64 0, .int .i64 0, .int .u64 0, .int .u8 0, .int .u64 0, .bool false] 33)).heap[w.heap.size + 1]? = some (.cells #[.int .i64 0, .int .i64 0, .int .u64 0, .int .u64 0, .int .u64 0, .int .i64 0, .int .u64 0, .int .u8 0, .int .u64 0, .bool false] 33 (0, 0)) := heap_alloc2_new w _ _
  obtain ⟨ab, aoff, rfl, hcs⟩ := hS.some' (by omega)
  have c1 := hcs (cellS s) _ (u64s_at (by omega))
  generalize takeS s (nthN ws (cellS s)) = s' at *
  generalize nthN ws (cellS s) = x at *
  generalize cellS s = cl at *
  have hone := sgA_one s'
  have hsz10 : (sgA s').size = 10 := rfl
  have d1 : decide (n ≤ cl) = false := by simp; omega
  have hcl : (cl : Int) < (n : Int) := by omega
  clear hcs hS
  have L'h := Lib.hid L
  have C'h := Lib.hid C
  have N'h := Lib.hid N
  have h'h := Lib.hid h
  have hc'h := Lib.hid hc
  have hr'h := Lib.hid hr
  have hb0'h := Lib.hid hb0
  have hs0'h := Lib.hid hs0
  have hz0'h := Lib.hid hz0
  have e1'h := Lib.hid e1
  have hh'h := Lib.hid hh
  have hf'h := Lib.hid hf
  have K'h := Lib.hid K
  have hlen'h := Lib.hid hlen
  have hone'h := Lib.hid hone
  have c1'h := Lib.hid c1
  clear L C N h hc hr hb0 hs0 hz0 e1 hh hf K hlen hone c1
  go_enter Try.func26, Try.ntmps26
  go_wp2_with (first | (go_at_call 52; refine (L'h.out _).mono ?_; rintro e w1 ⟨rfl, rfl⟩) | (refine wpList_load_row rfl _ _ rfl w.heap.size rfl 33 (sgA s) (0, 0) _ hs0'h.out Try.underlying33 rfl infoSg ?_) | (go_at_call 21; refine (C'h.out _).mono ?_; rintro e w2 ⟨rfl, hb2⟩; have hs2 := heap_below hb2 hs0'h.out (lt_of_heap hs0'h.out); have hs2'h := Lib.hid hs2; clear hs2; have hz2 := heap_below hb2 hz0'h.out (lt_of_heap hz0'h.out); have hz2'h := Lib.hid hz2; clear hz2; have hB2 := below_next hb0'h.out hb2; clear hb2; have hB2'h := Lib.hid hB2; clear hB2) | (refine wpList_load_row rfl _ _ rfl w.heap.size rfl 33 (sgA s) (0, 0) _ hs2'h.out Try.underlying33 rfl infoSg ?_) | (go_at_call 22; refine (N'h.out _).mono ?_; rintro e w3 ⟨rfl, hb3⟩; have hs3 := heap_below hb3 hs2'h.out (lt_of_heap hs2'h.out); have hs3'h := Lib.hid hs3; clear hs3; have hz3 := heap_below hb3 hz2'h.out (lt_of_heap hz2'h.out); have hz3'h := Lib.hid hz3; clear hz3; have hB3 := below_next hB2'h.out hb3; clear hb3; have hB3'h := Lib.hid hB3; clear hB3))
  obtain ⟨ph, sl, ky, ha, be, gr, ct, le, va, fo⟩ := s
  have hc3 : w3.cell? ⟨ab, aoff + cl, none⟩ = some (.int .u64 x) := (hB3'h.out.cell (p := ⟨ab, aoff + cl, none⟩) (lt_of_cell c1'h.out)).trans c1'h.out
  have hsC : SgC ⟨ph, sl, ky, ha, be, gr, ct, le, va, fo⟩ w.heap.size w3 := SgC.of hs3'h.out
  simp only [SgC] at hsC
  obtain ⟨q0, q1, q2, q3, q4, q5, q6, q7, q8, q9⟩ := hsC
  go_region_law (first | (go_simp; go_at_call 24; refine (K'h.out _).mono ?_; rintro e w4 ⟨rfl, hb4⟩; have hb4d : Below w3.heap.size w3.drew w4 := hb4; have hz4 := heap_below hb4d (show w3.drew.heap[w.heap.size + 1]? = _ from hz3'h.out) (lt_of_heap hz3'h.out); have hst := run_storeCells_row (P := Try.prog) _ _ _ _ (sgA s') hz4 rfl hone'h.out; have hz4'h := Lib.hid hz4; clear hz4))
  all_goals
    have hR := setRow_heap _ _ _ (sgA s') _ _ hz4'h.out
    have hB4 := (Below.drew hB3'h.out).trans (hb4d.mono hB3'h.out.size)
    have hB5 := below_setRow' hB4 (show w.heap.size ≤ w.heap.size + 1 by omega) (sgA s')
    clear hst hb4d hB4 hb4
    obtain ⟨W5, hW5⟩ : ∃ W5, W5 = w4.setRow (w.heap.size + 1) (sgA s') := ⟨_, rfl⟩
    rw [← hW5] at hR hB5 ⊢
    clear hW5
    have hR'h := Lib.hid hR
    have hB5'h := Lib.hid hB5
    clear hR hB5
    go_wp2
    obtain ⟨c0, c1, c2, c3, c4, c5, c6, c7, c8, c9⟩ := SgC.of hR'h.out
    refine bodyPost_ret (v := .tuple #[.agg (sgA s'), .int .i64 0]) ?_ rfl ⟨rfl, hB5'h.out⟩
    simp [results, Try.results26, go_sem, c0, c1, c2, c3, c4, c5, c6, c7, c8, c9, sgA]
end Go.Proofs.Ytoklgjlmjkhmbaa
