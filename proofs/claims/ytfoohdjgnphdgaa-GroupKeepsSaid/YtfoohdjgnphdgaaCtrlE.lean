/-
  Sets, Stops, Ready.
-/
import Derived.Test.YtfoohdjgnphdgaaCtrlD
import Derived.Deep.RegionHeld3
set_option linter.unusedSimpArgs false
set_option linter.unusedVariables false
set_option maxRecDepth 100000
namespace Go.Proofs.Ytfoohdjgnphdgaa
open Go.RowKit

theorem sets1_any (x g : Nat) (w : World) (hx : x < 2 ^ 64) (hg : w.heap[g]? = some (HandB x)) :
    Calls Try.prog 68 #[.pointer (some ⟨g, 0, none⟩)] w fun e w' => e = .returned (.agg #[.int .u8 (belowM x 128), .int .u8 (equalM x 128), .int .u8 (equalM x 254)]) ∧ Below w.heap.size w w' := by
  have F := fun w => full_any x w hx
  have E := fun w => empty_any x w hx
  have D := fun w => deleted_any x w hx
  have hgl := lt_of_heap hg
  obtain ⟨W, hW⟩ : ∃ W, W = w.alloc (.cells #[.int .u8 0, .int .u8 0, .int .u8 0] 110) := ⟨_, rfl⟩
  have hB : Below w.heap.size w W := by rw [hW]; exact (Below.refl _ _).alloc (Nat.le_refl _) _
  have hn : W.heap[w.heap.size]? = some (.cells #[.int .u8 0, .int .u8 0, .int .u8 0] 110 (0, 0)) := by rw [hW]; exact World.alloc_heap_new _ _
  have hg1 := heap_below hB hg hgl
  have hc : W.cell? ⟨g, 0, none⟩ = some (.int .u64 x) := blk_cell hg1 rfl
  generalize belowM x 128 = m0 at *
  generalize equalM x 128 = m1 at *
  generalize equalM x 254 = m2 at *
  have hone : (#[.int .u8 m0, .int .u8 m1, .int .u8 m2] : Array Value).all (·.oneCell') = true := by kernel_rfl
  have F'h := Lib.hid F
  have E'h := Lib.hid E
  have D'h := Lib.hid D
  have hx'h := Lib.hid hx
  have hg'h := Lib.hid hg
  have hg1'h := Lib.hid hg1
  have hgl'h := Lib.hid hgl
  have hB'h := Lib.hid hB
  have hn'h := Lib.hid hn
  have hone'h := Lib.hid hone
  clear F E D hx hg hg1 hgl hB hn hone
  have hkeep : ∀ W' : World, Below w.heap.size w W' → (W'.cell? ⟨g, 0, none⟩ = some (.int .u64 x) ∧ Below w.heap.size w W') := fun W' h =>
    ⟨blk_cell (heap_below h hg'h.out hgl'h.out) rfl, h⟩
  have hkeep'h := Lib.hid hkeep
  clear hkeep
  go_enter Try.func68, Try.ntmps68
  go_wp2_with fail
  rw [← hW]
  clear hW
  obtain ⟨k1, k2⟩ := hkeep'h.out W hB'h.out
  have hnd : W.drew.heap[w.heap.size]? = some (.cells #[.int .u8 0, .int .u8 0, .int .u8 0] 110 (0, 0)) := hn'h.out
  have hn0 := hn'h.out
  have d0 : W.cell? ⟨w.heap.size, 0, none⟩ = some (.int .u8 0) := blk_cell hn0 rfl
  have d1 : W.cell? ⟨w.heap.size, 1, none⟩ = some (.int .u8 0) := blk_cell hn0 rfl
  have d2 : W.cell? ⟨w.heap.size, 2, none⟩ = some (.int .u8 0) := blk_cell hn0 rfl
  have d3 : W.frozen? ⟨w.heap.size, 0, none⟩ = false := blk_free 0 hn0
  have d4 : W.frozen? ⟨w.heap.size, 1, none⟩ = false := blk_free 1 hn0
  have d5 : W.frozen? ⟨w.heap.size, 2, none⟩ = false := blk_free 2 hn0
  have e0 : W.drew.cell? ⟨w.heap.size, 0, none⟩ = some (.int .u8 0) := d0
  have e1 : W.drew.cell? ⟨w.heap.size, 1, none⟩ = some (.int .u8 0) := d1
  have e2 : W.drew.cell? ⟨w.heap.size, 2, none⟩ = some (.int .u8 0) := d2
  have e3 : W.drew.frozen? ⟨w.heap.size, 0, none⟩ = false := d3
  have e4 : W.drew.frozen? ⟨w.heap.size, 1, none⟩ = false := d4
  have e5 : W.drew.frozen? ⟨w.heap.size, 2, none⟩ = false := d5
  have hnd'h := Lib.hid hnd
  clear hnd
  clear hc hn0
  go_region_held3 (fun W' => W'.cell? ⟨g, 0, none⟩ = some (.int .u64 x) ∧ Below w.heap.size w W') (first | exact hkeep'h.out _ (by assumption) | exact hkeep'h.out _ (Below.drew (by assumption)) | exact hkeep'h.out _ (Below.drew (((k2.setCell (p := ⟨w.heap.size, 0, none⟩) (Nat.le_refl _) _).setCell (p := ⟨w.heap.size, 1, none⟩) (Nat.le_refl _) _).setCell (p := ⟨w.heap.size, 2, none⟩) (Nat.le_refl _) _)) | exact hkeep'h.out _ (((k2.setCell (p := ⟨w.heap.size, 0, none⟩) (Nat.le_refl _) _).setCell (p := ⟨w.heap.size, 1, none⟩) (Nat.le_refl _) _).setCell (p := ⟨w.heap.size, 2, none⟩) (Nat.le_refl _) _) | fail) (first | (go_at_call 61; refine (F'h.out _).mono ?_; rintro e w' ⟨rfl, rfl⟩) | (go_at_call 62; refine (E'h.out _).mono ?_; rintro e w' ⟨rfl, rfl⟩) | (go_at_call 63; refine (D'h.out _).mono ?_; rintro e w' ⟨rfl, rfl⟩) | fail)
  have hn3 := blk_set (i := 2) (.int .u8 m2) (blk_set (i := 1) (.int .u8 m1) (blk_set (i := 0) (.int .u8 m0) hn'h.out))
  have hB3 := ((k2.setCell (p := ⟨w.heap.size, 0, none⟩) (Nat.le_refl _) (.int .u8 m0)).setCell (p := ⟨w.heap.size, 1, none⟩) (Nat.le_refl _) (.int .u8 m1)).setCell (p := ⟨w.heap.size, 2, none⟩) (Nat.le_refl _) (.int .u8 m2)
  clear k1 k2 d0 d1 d2 d3 d4 d5 e0 e1 e2 e3 e4 e5 hnd'h
  generalize ((W.setCell ⟨w.heap.size, 0, none⟩ (.int .u8 m0)).setCell ⟨w.heap.size, 1, none⟩ (.int .u8 m1)).setCell ⟨w.heap.size, 2, none⟩ (.int .u8 m2) = W3 at *
  have d0 : W3.drew.cell? ⟨w.heap.size, 0, none⟩ = some (.int .u8 m0) := blk_cell (W := W3) hn3 rfl
  have d1 : W3.drew.cell? ⟨w.heap.size, 1, none⟩ = some (.int .u8 m1) := blk_cell (W := W3) hn3 rfl
  have d2 : W3.drew.cell? ⟨w.heap.size, 2, none⟩ = some (.int .u8 m2) := blk_cell (W := W3) hn3 rfl
  have hB4 := Below.drew hB3
  clear hn3 hB3
  generalize W3.drew = W4 at *
  have hB4'h := Lib.hid hB4
  clear hB4
  go_wp2
  refine bodyPost_ret (v := .agg #[.int .u8 m0, .int .u8 m1, .int .u8 m2]) (by simp [results, Try.results68, go_sem, d0, d1, d2]) rfl ?_
  exact ⟨rfl, hB4'h.out⟩
def readyW (x : Nat) : Nat := if rightW x = true then blendW (fillW 128) (fillW 254) (belowM x 128) else 0
def rightZ (x : Nat) : Nat := if rightW x = true then 0 else 190
def setM (x k : Nat) : Nat := if rightW x = true then (if k = 0 then belowM x 128 else if k = 1 then equalM x 128 else equalM x 254) else 0
theorem sets_any (x : Nat) (w : World) (hx : x < 2 ^ 64) :
    Calls Try.prog 46 #[.int .u64 x] w fun e w' => e = .returned (.tuple #[.int .u8 (setM x 0), .int .u8 (setM x 1), .int .u8 (setM x 2)]) ∧ Below w.heap.size w w' := by
  have T : Calls Try.prog 67 #[.int .u64 x, .func (.func 68) #[] #[]] w fun e w' => e = .returned (.tuple #[.agg #[.int .u8 (setM x 0), .int .u8 (setM x 1), .int .u8 (setM x 2)], .int .i64 (rightZ x)]) ∧ Below w.heap.size w w' := by
    unfold setM rightZ
    cases hr : rightW x with
    | false => exact tries_notS x _ w hx hr
    | true => exact tries_yesSets x _ _ _ w hx hr fun g W1 hg hb1 hh1 => (sets1_any x g W1 hx hh1).mono fun e w' ⟨h, hw⟩ => ⟨h, hw.mono (Nat.le_of_lt (lt_of_heap hh1))⟩
  generalize setM x 0 = m0 at *
  generalize setM x 1 = m1 at *
  generalize setM x 2 = m2 at *
  generalize rightZ x = z at *
  have hone : (#[.int .u8 m0, .int .u8 m1, .int .u8 m2] : Array Value).all (·.oneCell') = true := by kernel_rfl
  have T'h := Lib.hid T
  have hx'h := Lib.hid hx
  have hone'h := Lib.hid hone
  clear T hx hone
  go_enter Try.func46, Try.ntmps46
  go_wp2_with fail
  refine T'h.out.mono ?_
  rintro e w' ⟨rfl, hb1⟩
  go_wp2
  obtain ⟨W, hW⟩ : ∃ W, W = w'.alloc (.cells #[.int .u8 m0, .int .u8 m1, .int .u8 m2] 110) := ⟨_, rfl⟩
  have hB : Below w.heap.size w W := by rw [hW]; exact hb1.alloc hb1.size _
  have hn : W.heap[w'.heap.size]? = some (.cells #[.int .u8 m0, .int .u8 m1, .int .u8 m2] 110 (0, 0)) := by rw [hW]; exact World.alloc_heap_new _ _
  rw [← hW]
  have d0 : W.cell? ⟨w'.heap.size, 0, none⟩ = some (.int .u8 m0) := blk_cell hn rfl
  have d1 : W.cell? ⟨w'.heap.size, 1, none⟩ = some (.int .u8 m1) := blk_cell hn rfl
  have d2 : W.cell? ⟨w'.heap.size, 2, none⟩ = some (.int .u8 m2) := blk_cell hn rfl
  clear hW hn hb1
  have hB'h := Lib.hid hB
  clear hB
  go_region
  go_wp2
  refine bodyPost_ret (v := .tuple #[.int .u8 m0, .int .u8 m1, .int .u8 m2]) (by simp [results, Try.results46, go_sem]) rfl ?_
  exact ⟨rfl, Below.drew hB'h.out⟩
end Go.Proofs.Ytfoohdjgnphdgaa
