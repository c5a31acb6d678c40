/-
  The library's sort at rows of uint64: the choice of the pivot.
-/
import Derived.Test.YtifofdciablljaaDoorSrtE
import Derived.Sort.Walk11
set_option linter.unusedSimpArgs false
set_option linter.unusedVariables false
namespace Go.Proofs.YtifofdciablljaaDoor
open Go.RowKit Go.Sort

theorem swo64 : SWO lt64 := ⟨fun x => by simp [lt64], fun x y z h1 h2 => by simp only [lt64, decide_eq_true_eq] at *; omega, fun x y z h1 h2 => by simp only [lt64, decide_eq_false_iff_not] at *; omega⟩

/-- What hangs on the counter behind the heap is the old world, grown. -/
theorem Cnt.grown {w W : World} {t : Nat} (h : Cnt (w.alloc (.cells #[.int .i64 0] 3)) w.heap.size 0 t W) : ∃ n os, W = grow (Sort.ahead w n) os := by
  obtain ⟨n, rfl⟩ := h
  obtain ⟨os, e⟩ := counter_grow w n t
  exact ⟨n, os, e⟩

set_option maxHeartbeats 3200000 in
set_option maxRecDepth 100000 in
theorem pivot64 (blk off cap a b : Nat) (d : Array Nat) (w : World) (hH : Holds e64 w blk off d) (hblk : blk < w.heap.size) (hab : a < b) (hb : b ≤ d.size) (hsz : d.size < 4611686018427387904) :
    Calls Tryd.prog 74 #[.slice (some ⟨blk, off, none⟩) d.size cap, .int .i64 a, .int .i64 b] w fun e w' =>
      e = .returned (.tuple #[.int .i64 (choosePivot lt64 d a b).1, .int .i64 (hintCode (choosePivot lt64 d a b).2)]) ∧ ∃ n os, w' = grow (Sort.ahead w n) os := by
  have hne : w.heap.size ≠ blk := by omega
  have hH0 : Holds e64 (w.alloc (.cells #[.int .i64 0] 3)) blk off d := by rw [alloc_eq_grow]; exact holds_grow _ _ _ _ _ _ hblk hH
  have hS0 : HasCnt (w.alloc (.cells #[.int .i64 0] 3)) w.heap.size 0 0 := fun j hj => by
    obtain rfl : j = 0 := by simpa using hj
    simp
  rw [choosePivot_eq]
  have HH := Lib.hid hH0
  have HS := Lib.hid hS0
  clear hH hH0 hS0
  obtain ⟨I, hI⟩ : ∃ I : Nat, I = a + (b - a) / 4 * 1 := ⟨_, rfl⟩
  obtain ⟨J, hJ⟩ : ∃ J : Nat, J = a + (b - a) / 4 * 2 := ⟨_, rfl⟩
  obtain ⟨K, hK⟩ : ∃ K : Nat, K = a + (b - a) / 4 * 3 := ⟨_, rfl⟩
  have eI : ((a : Int) + ((b : Int) - (a : Int)) / 4) = (I : Int) := by omega
  have eJ : ((a : Int) + ((b : Int) - (a : Int)) / 4 * 2) = (J : Int) := by omega
  have eK : ((a : Int) + ((b : Int) - (a : Int)) / 4 * 3) = (K : Int) := by omega
  by_cases h8 : b - a ≥ 8
  · by_cases h50 : b - a ≥ 50
    · obtain ⟨i1, s1, h1⟩ : ∃ i1 s1, medianAdjacent lt64 d I 0 = (i1, s1) := ⟨_, _, rfl⟩
      obtain ⟨j1, s2, h2⟩ : ∃ j1 s2, medianAdjacent lt64 d J s1 = (j1, s2) := ⟨_, _, rfl⟩
      obtain ⟨k1, s3, h3⟩ : ∃ k1 s3, medianAdjacent lt64 d K s2 = (k1, s3) := ⟨_, _, rfl⟩
      obtain ⟨p, s, h4⟩ : ∃ p s, median lt64 d i1 j1 k1 s3 = (p, s) := ⟨_, _, rfl⟩
      have hraw : rawPivot lt64 d a b = (p, s) := by simp only [rawPivot, if_pos h8, if_pos h50, ← hI, ← hJ, ← hK, h1, h2, h3, h4]
      have m1 := medianAdjacent_mem lt64 d I 0; rw [h1] at m1
      have m2 := medianAdjacent_mem lt64 d J s1; rw [h2] at m2
      have m3 := medianAdjacent_mem lt64 d K s2; rw [h3] at m3
      have n1 := medianAdjacent_count lt64 d I 0; rw [h1] at n1
      have n2 := medianAdjacent_count lt64 d J s1; rw [h2] at n2
      have n3 := medianAdjacent_count lt64 d K s2; rw [h3] at n3
      simp only [] at m1 m2 m3 n1 n2 n3
      have c1 := Lib.hid (adjacent64 d _ rfl blk off cap I w.heap.size 0 0 _ HH.out (by omega) (by omega) hsz hne HS.out (by omega))
      rw [hraw]
      have B : Hid (2 ≤ I ∧ I + 3 < d.size ∧ 2 ≤ J ∧ J + 3 < d.size ∧ 2 ≤ K ∧ K + 3 < d.size ∧ i1 < d.size ∧ j1 < d.size ∧ k1 < d.size ∧ s1 ≤ 3 ∧ s2 ≤ 6 ∧ s3 ≤ 9) := by
        refine ⟨?_, ?_, ?_, ?_, ?_, ?_, ?_, ?_, ?_, ?_, ?_, ?_⟩ <;> omega
      have H1 := Lib.hid h1
      have H2 := Lib.hid h2
      have H3 := Lib.hid h3
      have H4 := Lib.hid h4
      clear h1 h2 h3 h4 hI hJ hK hraw m1 m2 m3 n1 n2 n3
      go_enter Tryd.func74, Tryd.ntmps74
      go_wp2_with fail
      refine c1.out.mono ?_
      rw [H1.out]
      rintro e w1 ⟨rfl, g1⟩
      go_wp2_with fail
      refine (adjacent64 d _ rfl blk off cap J w.heap.size 0 s1 w1 (g1.row HH.out hne) (by have := B.out; omega) (by have := B.out; omega) hsz hne (g1.has HS.out) (by have := B.out; omega)).mono ?_
      rw [H2.out]
      rintro e w2 ⟨rfl, g2⟩
      have g12 := g1.then g2
      go_wp2_with fail
      refine (adjacent64 d _ rfl blk off cap K w.heap.size 0 s2 w2 (g12.row HH.out hne) (by have := B.out; omega) (by have := B.out; omega) hsz hne (g12.has HS.out) (by have := B.out; omega)).mono ?_
      rw [H3.out]
      rintro e w3 ⟨rfl, g3⟩
      have g13 := g12.then g3
      go_wp2_with fail
      refine (median64 d _ rfl blk off cap i1 j1 k1 w.heap.size 0 s3 w3 (g13.row HH.out hne) (by have := B.out; omega) (by have := B.out; omega) (by have := B.out; omega) hne (g13.has HS.out) (by have := B.out; omega)).mono ?_
      rw [H4.out]
      rintro e w4 ⟨rfl, g4⟩
      have G4 := Lib.hid (g13.then g4)
      have cs := (one_cell (G4.out.has HS.out)).1
      clear g1 g2 g3 g4 g12 g13
      go_wp2
      all_goals
        go_ret2
        refine ⟨?_, G4.out.grown⟩
        first
          | (have e0 : (s : Int) = 0 := of_beq_int (by assumption)
             obtain rfl : s = 0 := by omega
             rfl)
          | (have e1 : (s : Int) = 12 := of_beq_int (by assumption)
             obtain rfl : s = 12 := by omega
             rfl)
          | (have e0 : (s : Int) ≠ 0 := of_bne_int (by assumption)
             have e1 : (s : Int) ≠ 12 := of_bne_int (by assumption)
             have e : hintCode (hintOf s) = 0 := by unfold hintOf; rw [if_neg (by omega), if_neg (by omega)]; rfl
             rw [e]
             rfl)
    · obtain ⟨p, s, h4⟩ : ∃ p s, median lt64 d I J K 0 = (p, s) := ⟨_, _, rfl⟩
      have hraw : rawPivot lt64 d a b = (p, s) := by simp only [rawPivot, if_pos h8, if_neg h50, ← hI, ← hJ, ← hK, h4]
      have c1 := Lib.hid (median64 d _ rfl blk off cap I J K w.heap.size 0 0 _ HH.out (by omega) (by omega) (by omega) hne HS.out (by omega))
      rw [hraw]
      have H4 := Lib.hid h4
      clear h4 hI hJ hK hraw
      go_enter Tryd.func74, Tryd.ntmps74
      go_wp2_with fail
      refine c1.out.mono ?_
      rw [H4.out]
      rintro e w4 ⟨rfl, g4⟩
      have G4 := Lib.hid g4
      have cs := (one_cell (G4.out.has HS.out)).1
      clear g4
      go_wp2
      all_goals
        go_ret2
        refine ⟨?_, G4.out.grown⟩
        first
          | (have e0 : (s : Int) = 0 := of_beq_int (by assumption)
             obtain rfl : s = 0 := by omega
             rfl)
          | (have e1 : (s : Int) = 12 := of_beq_int (by assumption)
             obtain rfl : s = 12 := by omega
             rfl)
          | (have e0 : (s : Int) ≠ 0 := of_bne_int (by assumption)
             have e1 : (s : Int) ≠ 12 := of_bne_int (by assumption)
             have e : hintCode (hintOf s) = 0 := by unfold hintOf; rw [if_neg (by omega), if_neg (by omega)]; rfl
             rw [e]
             rfl)
  · have hraw : rawPivot lt64 d a b = (J, 0) := by simp only [rawPivot, if_neg h8, ← hJ]
    rw [hraw]
    clear hraw hI hJ hK
    go_enter Tryd.func74, Tryd.ntmps74
    go_wp2_with fail
    go_ret2
    exact ⟨rfl, (show Cnt _ _ 0 0 _ from ⟨0, (putRow_self _ _ _ _ _ HS.out).symm⟩).grown⟩
end Go.Proofs.YtifofdciablljaaDoor
