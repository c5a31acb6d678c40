/-
  Package look: which load, and what is made of it.
-/
import Derived.Test.YtoklgjlmjkhmbaaLook
import Derived.BigQuiet
import Derived.Deep.QuietTactic
set_option linter.unusedSimpArgs false
set_option linter.unusedVariables false
set_option maxRecDepth 100000
namespace Go.Proofs.Ytoklgjlmjkhmbaa
open Go.RowKit

abbrev SiB (s : Sg) : Obj := .cells (sgA s) 88 (0, 0)
theorem prB2 (x i : Nat) : prB 2 x i < 2 := by unfold prB; exact Nat.mod_lt _ (by decide)
theorem slot_any (s : Sg) (g : Nat) (w : World) (h : SgOk s) (hr : SgRight s) (hg : w.heap[g]? = some (SiB s)) :
    Calls Try.prog 73 #[.pointer (some ⟨g, 0, none⟩)] w fun e w' => e = .returned (.int .i64 ((8 * grpS s + firstLane s.left : Nat) : Int)) ∧ Below w.heap.size w w' := by
  have c3 : w.cell? ⟨g, 3, none⟩ = some (.int .u64 s.hash) := blk_cell hg rfl
  have c5 : w.cell? ⟨g, 5, none⟩ = some (.int .i64 s.grp) := blk_cell hg rfl
  have c7 : w.cell? ⟨g, 7, none⟩ = some (.int .u8 s.left) := blk_cell hg rfl
  have hgn : ((s.grp.toNat : Nat) : Int) = s.grp := by have := hr.grp; omega
  have A := fun w => at_yes 2 (s.hash / 128) s.grp.toNat w rfl (by have := h.hash; omega) (by have := hr.grp; omega)
  rw [hgn] at A
  have H := fun w => h1_any s.hash w
  have F := fun w => first_any s.left h.left w
  have hp : grpS s < 2 := grpS_lt s
  have hl : firstLane s.left < 8 := firstLane_lt' h.left
  have hgr : prB 2 (s.hash / 128) s.grp.toNat = grpS s := rfl
  rw [hgr] at A
  generalize grpS s = p at *
  generalize firstLane s.left = l at *
  generalize someLane s.left = sm at *
  generalize s.hash / 128 = h1 at *
  generalize s.hash = ha at *
  generalize s.grp = gr at *
  generalize s.left = le at *
  have hp' : (p : Int) < 2 := by omega
  have hl' : (l : Int) < 8 := by omega
  have hcast : ((8 * p + l : Nat) : Int) = (p : Int) * 8 + (l : Int) := by omega
  rw [hcast]
  clear hgn hgr hg h hr hcast hp hl
  have A'h := Lib.hid A
  have H'h := Lib.hid H
  have F'h := Lib.hid F
  clear A H F
  go_enter Try.func73, Try.ntmps73
  go_wp2
  go_quiet ((first | (go_at_call 31; exact Calls.quiet_of_same (H'h.out _)) | (go_at_call 72; exact Calls.quiet_of_same (A'h.out _))))
  go_wp2_with (go_at_call 99; refine (F'h.out _).mono ?_; rintro e w2 ⟨rfl, hb2⟩)
  go_ret
  exact ⟨rfl, (below_drewN' _ _).trans hb2⟩
theorem word_any (s : Sg) (g : Nat) (w : World) (h : SgOk s) (hr : SgRight s) (hg : w.heap[g]? = some (SiB s)) :
    Calls Try.prog 46 #[.pointer (some ⟨g, 0, none⟩)] w fun e w' => e = .returned (.int .i64 (wordS s)) ∧ Below w.heap.size w w' := by
  have c0 : w.cell? ⟨g, 0, none⟩ = some (.int .i64 s.phase) := blk_cell hg rfl
  have S := slot_any s g w h hr hg
  have hp : grpS s < 2 := grpS_lt s
  have hl : firstLane s.left < 8 := firstLane_lt' h.left
  by_cases p1 : s.phase = 1
  · have ew : wordS s = 4 + grpS s := by unfold wordS; rw [if_pos p1]
    rw [ew]
    have c3 : w.cell? ⟨g, 3, none⟩ = some (.int .u64 s.hash) := blk_cell hg rfl
    have c5 : w.cell? ⟨g, 5, none⟩ = some (.int .i64 s.grp) := blk_cell hg rfl
    have hgn : ((s.grp.toNat : Nat) : Int) = s.grp := by have := hr.grp; omega
    have A := fun w => at_yes 2 (s.hash / 128) s.grp.toNat w rfl (by have := h.hash; omega) (by have := hr.grp; omega)
    rw [hgn] at A
    have H := fun w => h1_any s.hash w
    have hgr : prB 2 (s.hash / 128) s.grp.toNat = grpS s := rfl
    rw [hgr] at A
    have d1 : (s.phase == 1) = true := by simp [p1]
    generalize grpS s = p at *
    generalize s.hash / 128 = h1 at *
    generalize s.hash = ha at *
    generalize s.grp = gr at *
    generalize s.phase = ph at *
    have hp' : (p : Int) < 2 := by omega
    have hcast : ((4 + p : Nat) : Int) = 4 + (p : Int) := by omega
    rw [hcast]
    clear hgn hgr hg h hr hcast hp hl S ew
    have A'h := Lib.hid A
    have H'h := Lib.hid H
    have p1'h := Lib.hid p1
    clear A H p1
    go_enter Try.func46, Try.ntmps46
    go_wp2
    go_quiet ((first | (go_at_call 31; exact Calls.quiet_of_same (H'h.out _)) | (go_at_call 72; exact Calls.quiet_of_same (A'h.out _))))
    go_wp2
    go_ret
    exact ⟨rfl, below_drewN' _ _⟩
  · have d1 : (s.phase == 1) = false := by simpa using p1
    by_cases p2 : s.phase = 2
    · have ew : wordS s = 6 + (8 * grpS s + firstLane s.left) := by unfold wordS; rw [if_neg p1, if_pos p2]
      rw [ew]
      have d2 : (s.phase == 2) = true := by simp [p2]
      generalize hz : 8 * grpS s + firstLane s.left = z at *
      have hz' : (z : Int) < 100 := by omega
      have hcast : ((6 + z : Nat) : Int) = 6 + (z : Int) := by omega
      rw [hcast]
      generalize s.phase = ph at *
      clear hz hg h hr hcast ew hp hl
      have S'h := Lib.hid S
      have p1'h := Lib.hid p1
      have p2'h := Lib.hid p2
      clear S p1 p2
      go_enter Try.func46, Try.ntmps46
      go_wp2_with (go_at_call 73; refine S'h.out.mono ?_; rintro e w2 ⟨rfl, hb2⟩)
      go_ret
      exact ⟨rfl, hb2⟩
    · have d2 : (s.phase == 2) = false := by simpa using p2
      by_cases p3 : s.phase = 3
      · have ew : wordS s = 22 + (8 * grpS s + firstLane s.left) := by unfold wordS; rw [if_neg p1, if_neg p2, if_pos p3]
        rw [ew]
        have d3 : (s.phase == 3) = true := by simp [p3]
        generalize hz : 8 * grpS s + firstLane s.left = z at *
        have hz' : (z : Int) < 100 := by omega
        have hcast : ((22 + z : Nat) : Int) = 22 + (z : Int) := by omega
        rw [hcast]
        generalize s.phase = ph at *
        clear hz hg h hr hcast ew hp hl
        have S'h := Lib.hid S
        have p1'h := Lib.hid p1
        have p2'h := Lib.hid p2
        have p3'h := Lib.hid p3
        clear S p1 p2 p3
        go_enter Try.func46, Try.ntmps46
        go_wp2_with (go_at_call 73; refine S'h.out.mono ?_; rintro e w2 ⟨rfl, hb2⟩)
        go_ret
        exact ⟨rfl, hb2⟩
      · have d3 : (s.phase == 3) = false := by simpa using p3
        have ew : wordS s = 0 := by unfold wordS; rw [if_neg p1, if_neg p2, if_neg p3]
        rw [ew]
        generalize s.phase = ph at *
        clear hg h hr ew hp hl
        have S'h := Lib.hid S
        have p1'h := Lib.hid p1
        have p2'h := Lib.hid p2
        have p3'h := Lib.hid p3
        clear S p1 p2 p3
        go_enter Try.func46, Try.ntmps46
        go_wp2
        go_ret
        exact ⟨rfl, Below.refl _ _⟩
end Go.Proofs.Ytoklgjlmjkhmbaa
