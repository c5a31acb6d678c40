/-
  Package probe: First's other ways, At, Far.
-/
import Derived.Test.YtoklgjlmjkhmbaaProbeB
set_option linter.unusedSimpArgs false
set_option linter.unusedVariables false
namespace Go.Proofs.Ytoklgjlmjkhmbaa
open Go.RowKit

/-! ### At -/
theorem at_no (g i : Int) (h : Nat) (w : World) (hg : goodG g = false) (hb : -9223372036854775808 ≤ g ∧ g ≤ 9223372036854775807) :
    Calls Try.prog 72 #[.int .i64 g, .int .u64 h, .int .i64 i] w fun e w' => e = .returned (.tuple #[.int .i64 0, .int .i64 180]) ∧ w' = w := by
  have C := fun w => check_no g w hg hb
  have C'h := Lib.hid C
  have hg'h := Lib.hid hg
  have hb'h := Lib.hid hb
  clear C hg hb
  go_enter Try.func72, Try.ntmps72
  go_wp2
  go_step3
  go_wp2_with fail
  refine (C'h.out _).mono ?_
  rintro e w' ⟨rfl, rfl⟩
  go_wp2
  rw [Exit.noGoto_ret]
  go_ret2
  exact ⟨rfl, rfl⟩
theorem at_out (G h : Nat) (i : Int) (w : World) (hG : goodB G = true) (hi : ¬ (0 ≤ i ∧ i < G)) :
    Calls Try.prog 72 #[.int .i64 G, .int .u64 h, .int .i64 i] w fun e w' => e = .returned (.tuple #[.int .i64 0, .int .i64 2]) ∧ w' = w := by
  have C := fun w => check_yes G w hG
  by_cases g1 : i < 0
  · have d1 : decide (i < 0) = true := by rw [decide_eq_true_eq]; exact g1
    have C'h := Lib.hid C
    have hG'h := Lib.hid hG
    have hi'h := Lib.hid hi
    clear C hG hi
    go_enter Try.func72, Try.ntmps72
    go_wp2
    go_step3
    go_wp2_with fail
    refine (C'h.out _).mono ?_
    rintro e w' ⟨rfl, rfl⟩
    go_wp2
    rw [Exit.noGoto_ret]
    go_ret2
    exact ⟨rfl, rfl⟩
  · have d1 : decide (i < 0) = false := by rw [decide_eq_false_iff_not]; exact g1
    have d2 : decide ((G : Int) ≤ i) = true := by rw [decide_eq_true_eq]; omega
    have C'h := Lib.hid C
    have hG'h := Lib.hid hG
    have hi'h := Lib.hid hi
    clear C hG hi
    go_enter Try.func72, Try.ntmps72
    go_wp2
    go_step3
    go_wp2_with fail
    refine (C'h.out _).mono ?_
    rintro e w' ⟨rfl, rfl⟩
    go_wp2
    rw [Exit.noGoto_ret]
    go_ret2
    exact ⟨rfl, rfl⟩
def gK (G h k : Nat) : Nat := h % G + k * (k + 1) / 2
theorem gK_next (G h k : Nat) : gK G h (k + 1) = gK G h k + (k + 1) := by unfold gK; rw [tri_next]; omega
theorem gK_end (G h i : Nat) : gK G h i % G = prB G h i := by unfold gK prB; rw [Nat.mod_add_mod]
theorem gK_zero (G h : Nat) : gK G h 0 = prB G h 0 := by rw [prB_zero]; unfold gK; simp
theorem gK_le {G h k : Nat} (hG : 0 < G) (hG1 : G ≤ 64) (hk : k ≤ 64) : gK G h k ≤ 4160 := by
  have h1 : h % G < G := Nat.mod_lt _ hG
  have h2 : k * (k + 1) ≤ 64 * 65 := Nat.mul_le_mul hk (by omega)
  unfold gK; omega
def turnsLeft (i : Nat) (a : Act) : Nat := match a.tmps.getD 9 undef with | .int _ k => i - k.toNat | _ => 0
set_option maxHeartbeats 1000000 in
theorem at_yes (G h i : Nat) (w : World) (hG : goodB G = true) (hh : h < 2 ^ 64) (hi : i < G) :
    Calls Try.prog 72 #[.int .i64 G, .int .u64 h, .int .i64 i] w fun e w' => e = .returned (.tuple #[.int .i64 (prB G h i), .int .i64 0]) ∧ w' = w := by
  have C := fun w => check_yes G w hG
  have F := fun w => pfirst_any G h w hG hh
  rw [← gK_zero] at F
  have h0 := good_pos hG
  have h1 := good_le hG
  have d1 : decide ((i : Int) < 0) = false := by rw [decide_eq_false_iff_not]; omega
  have d2 : decide ((G : Int) ≤ (i : Int)) = false := by rw [decide_eq_false_iff_not]; omega
  have hle := fun k (hk : k ≤ 64) => gK_le (h := h) h0 h1 hk
  have hm := mask_i64 (gK G h i) hG (by have := hle i (by omega); omega)
  rw [gK_end] at hm
  have hnx := fun k => gK_next G h k
  generalize prB G h i = r at *
  have C'h := Lib.hid C
  have F'h := Lib.hid F
  have hG'h := Lib.hid hG
  have hh'h := Lib.hid hh
  have hle'h := Lib.hid hle
  have hm'h := Lib.hid hm
  have hnx'h := Lib.hid hnx
  clear C F hG hh hle hm hnx
  go_enter Try.func72, Try.ntmps72
  go_wp2
  refine wp_scope_jumps 0 (fun a' w' => w' = w ∧ ∃ (k : Nat) (u25 u26 u27 u28 u29 u30 u31 u32 u33 u34 u35 u36 : Value), a' = { tmps := #[.int .i64 G, .int .u64 h, .int .i64 i, undef, undef, undef, .int .i64 0, .int .i64 0, .int .i64 (gK G h k), .int .i64 k, .bool false, .int .i64 G, .int .i64 0, .bool false, .bool false, .int .i64 i, .bool false, .bool false, .int .i64 i, .int .i64 G, .bool false, .bool false, .int .i64 G, .int .u64 h, .int .i64 (gK G h 0), u25, u26, u27, u28, u29, u30, u31, u32, u33, u34, u35, u36], defers := [] } ∧ 1 ≤ k ∧ k ≤ i) (fun a' _ => turnsLeft i a') rfl ?_ ?_
  · have hb := hnx'h.out 0
    have hl := hle'h.out 0 (by omega)
    by_cases hi0 : i = 0
    · subst hi0
      have hm := hm'h.out
      have hb'h := Lib.hid hb
      clear hb
      go_wp2_with fail
      refine (C'h.out _).mono ?_
      rintro e w' ⟨rfl, rfl⟩
      go_wp2_with fail
      refine (F'h.out _).mono ?_
      rintro e w' ⟨rfl, rfl⟩
      go_wp2
      go_step3
      go_wp2
      simp only [Exit.jump]
      go_ret2
      exact ⟨rfl, rfl⟩
    · have d3 : decide ((0 : Int) < (i : Int)) = true := by rw [decide_eq_true_eq]; omega
      have d4 : (0 : Int) < (i : Int) := by omega
      have hb'h := Lib.hid hb
      clear hb
      go_wp2_with fail
      refine (C'h.out _).mono ?_
      rintro e w' ⟨rfl, rfl⟩
      go_wp2_with fail
      refine (F'h.out _).mono ?_
      rintro e w' ⟨rfl, rfl⟩
      go_wp2
      go_step3
      go_wp2
      go_step3
      have hb1 : (gK G h 0 : Int) + 1 = (gK G h 1 : Int) := by have := hb'h.out; rw [Nat.zero_add] at this; omega
      exact ⟨rfl, rfl, 1, _, _, _, _, _, _, _, _, _, _, _, _, by rw [← hb1]; rfl, by decide, by omega⟩
  · rintro a' w' ⟨rfl, k, u25, u26, u27, u28, u29, u30, u31, u32, u33, u34, u35, u36, rfl, hk1, hki⟩
    have hb := hnx'h.out k
    have hl := hle'h.out k (by omega)
    have hl2 := hle'h.out (k + 1)
    by_cases hk : k = i
    · subst hk
      have hm := hm'h.out
      clear hb hl2
      go_wp2
      simp only [Exit.jump]
      go_ret2
      exact ⟨rfl, rfl⟩
    · have d3 : decide ((k : Int) < (i : Int)) = true := by rw [decide_eq_true_eq]; omega
      have d4 : (k : Int) < (i : Int) := by omega
      have hb1 : (gK G h k : Int) + ((k : Int) + 1) = (gK G h (k + 1) : Int) := by omega
      clear hb hl2
      have hb1'h := Lib.hid hb1
      clear hb1
      go_wp2
      go_step3
      refine ⟨rfl, ⟨rfl, k + 1, _, _, _, _, _, _, _, _, _, _, _, _, by rw [← hb1'h.out]; rfl, by omega, by omega⟩, ?_⟩
      simp [turnsLeft]
      omega

/-! ### Far -/
/-- Sums over hashes, of the first j hashes, and of the first k of the next one's row. -/
def farK (G : Nat) (hs : List Nat) (g : Nat) : Nat := (hs.map fun h => placeB G h g).sum
def farL (G : Nat) (hs : List Nat) : List Nat := (List.range G).map (farK G hs)
def farP (G : Nat) (hs : List Nat) (h k : Nat) : List Nat := (List.range G).map fun g => farK G hs g + if placeB G h g < k then placeB G h g else 0
theorem farK_snoc (G : Nat) (hs : List Nat) (h g : Nat) : farK G (hs ++ [h]) g = farK G hs g + placeB G h g := by unfold farK; simp
theorem farP_zero (G : Nat) (hs : List Nat) (h : Nat) : farP G hs h 0 = farL G hs := by unfold farP farL; simp
theorem farP_full {G : Nat} (hG : goodB G = true) (hs : List Nat) (h : Nat) : farP G hs h G = farL G (hs ++ [h]) := by
  unfold farP farL
  refine List.map_congr_left fun g hg => ?_
  rw [farK_snoc, if_pos (placeB_lt hG h (List.mem_range.1 hg))]
theorem farP_length (G : Nat) (hs : List Nat) (h k : Nat) : (farP G hs h k).length = G := by unfold farP; simp
theorem farL_length (G : Nat) (hs : List Nat) : (farL G hs).length = G := by unfold farL; simp
theorem farK_le {G : Nat} (hG : goodB G = true) (hs : List Nat) {g : Nat} (hg : g < G) : farK G hs g ≤ hs.length * 64 := by
  have hle := good_le hG
  unfold farK
  induction hs with
  | nil => simp
  | cons h r ih => have := placeB_lt hG h hg; simp only [List.map_cons, List.sum_cons, List.length_cons]; omega
theorem farP_at {G : Nat} {hs : List Nat} {h k : Nat} (hG : goodB G = true) (hk : k < G) : nthN (farP G hs h k) (prB G h k) = farK G hs (prB G h k) := by
  have hp := prB_lt h k (good_pos hG)
  have h1 : prB G h k < (farP G hs h k).length := by rw [farP_length]; exact hp
  rw [← nthN_eq h1]
  simp only [farP, List.getElem_map, List.getElem_range]
  rw [placeB_pr hG h hk, if_neg (by omega), Nat.add_zero]
theorem farP_next {G : Nat} {hs : List Nat} {h k : Nat} (hG : goodB G = true) (hk : k < G) : (farP G hs h k).set (prB G h k) (farK G hs (prB G h k) + k) = farP G hs h (k + 1) := by
  unfold farP
  apply List.ext_getElem (by simp)
  intro i h1 h2
  have hi : i < G := by simpa using h2
  simp only [List.getElem_map, List.getElem_range, List.getElem_set]
  by_cases e : prB G h k = i
  · subst e
    rw [if_pos rfl, placeB_pr hG h hk, if_pos (by omega)]
  · rw [if_neg e]
    have hne : placeB G h i ≠ k := fun e' => e (by rw [← e', prB_place hG h hi])
    by_cases h3 : placeB G h i < k
    · rw [if_pos h3, if_pos (by omega)]
    · rw [if_neg h3, if_neg (by omega)]
end Go.Proofs.Ytoklgjlmjkhmbaa
