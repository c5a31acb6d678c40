/-
  The document's answers of layer 8, each by its contract.
-/
import Derived.Test.YtoklgjlmjkhmbaaFar
import Derived.Deep.RegionHeld3
set_option linter.unusedSimpArgs false
set_option linter.unusedVariables false
namespace Go.Proofs.Ytoklgjlmjkhmbaa
open Go.RowKit

theorem may_end {g : Int} {k : Nat} (hk : k ≤ 6) (hlo : ∀ j, j < k → ((2 ^ j : Nat) : Int) < g) (hend : ¬ (((2 ^ k : Nat) : Int) < g ∧ k < 6)) : (((2 ^ k : Nat) : Int) == g) = goodG g := by
  have h6 : k = 0 ∨ k = 1 ∨ k = 2 ∨ k = 3 ∨ k = 4 ∨ k = 5 ∨ k = 6 := by omega
  rw [Bool.eq_iff_iff, beq_iff_eq]
  unfold goodG
  rw [Bool.and_eq_true, decide_eq_true_eq]
  constructor
  · rintro rfl
    refine ⟨Int.natCast_nonneg _, ?_⟩
    rw [Int.toNat_natCast]
    rcases h6 with h | h | h | h | h | h | h <;> subst h <;> decide
  · rintro ⟨h0, hg⟩
    have hc := good_cases hg
    have hj := fun j (h : j < k) => hlo j h
    have e : g = (g.toNat : Int) := by omega
    rcases h6 with h | h | h | h | h | h | h <;> subst h <;> simp at hend ⊢
    all_goals
      first
        | omega
        | (have := hj 0 (by omega); simp at this; omega)
        | (have := hj 1 (by omega); simp at this; omega)
        | (have := hj 2 (by omega); simp at this; omega)
        | (have := hj 3 (by omega); simp at this; omega)
        | (have := hj 4 (by omega); simp at this; omega)
        | (have := hj 5 (by omega); simp at this; omega)
def twoP (k : Nat) : Nat := 2 ^ k
theorem twoP_64 {k : Nat} (h : k ≤ 6) : ((twoP k : Int) < 64 ↔ k < 6) ∧ twoP k ≤ 64 := by
  have h6 : k = 0 ∨ k = 1 ∨ k = 2 ∨ k = 3 ∨ k = 4 ∨ k = 5 ∨ k = 6 := by omega
  rcases h6 with h | h | h | h | h | h | h <;> subst h <;> decide
def sumK (G h k : Nat) : Nat := h % G + k * (k - 1) / 2
theorem sumK_next (G h k : Nat) : sumK G h (k + 1) = sumK G h k + k := by
  unfold sumK
  cases k with
  | zero => simp
  | succ k => rw [Nat.add_sub_cancel, Nat.add_sub_cancel, Nat.mul_comm (k + 1 + 1), tri_next, Nat.mul_comm (k + 1)]; omega
theorem sumK_end (G h i : Nat) : sumK G h (i + 1) % G = prB G h i := by
  unfold sumK prB; rw [Nat.add_sub_cancel, Nat.mul_comm (i + 1), Nat.mod_add_mod]
theorem sumK_le {G h k : Nat} (hG : 0 < G) (hG1 : G ≤ 64) (hk : k ≤ 64) : sumK G h k ≤ 4160 := by
  have h1 : h % G < G := Nat.mod_lt _ hG
  have h2 : k * (k - 1) ≤ 64 * 63 := Nat.mul_le_mul hk (by omega)
  unfold sumK; omega
theorem ref_at (G h i : Nat) (w : World) (hG : goodB G = true) (hh : h < 2 ^ 64) (hi : i < G) : Calls Try.prog 68 #[.int .i64 G, .int .u64 h, .int .i64 i] w fun e w' => e = .returned (.int .i64 (prB G h i)) ∧ w' = w := by
  have h0 := good_pos hG
  have h1 := good_le hG
  have hend := sumK_end G h i
  have hs0 : sumK G h 0 = h % G := by unfold sumK; simp
  have hle := fun k (hk : k ≤ 64) => sumK_le (h := h) h0 h1 hk
  have hr : Int.tmod (h : Int) (G : Int) = ((h % G : Nat) : Int) := by rw [Int.tmod_eq_emod_of_nonneg (by omega)]; rfl
  have hml : h % G < 64 := by have := Nat.mod_lt h h0; omega
  have hwG : IntKind.u64.wrap (G : Int) = (G : Int) := by rw [IntKind.wrap_u64]; omega
  have hre : Int.tmod (sumK G h (i + 1) : Int) (G : Int) = (prB G h i : Int) := by rw [Int.tmod_eq_emod_of_nonneg (by omega), ← hend]; rfl
  have hre2 : (sumK G h (i + 1) : Int) % (G : Int) = (prB G h i : Int) := by rw [← hend]; rfl
  rw [← hs0] at hr hml
  have hG'h := Lib.hid hG
  have hh'h := Lib.hid hh
  have hend'h := Lib.hid hend
  have hs0'h := Lib.hid hs0
  have hle'h := Lib.hid hle
  have hre'h := Lib.hid hre
  have hre2'h := Lib.hid hre2
  clear hG hh hend hs0 hle hre hre2
  generalize prB G h i = r at *
  go_enter Try.func68, Try.ntmps68
  go_wp2
  go_loopg [7, 16] (i + 1) (fun q o c wr => ∃ k : Nat, k + q = i + 1 ∧ c = .int .i64 k ∧ o = .int .i64 (sumK G h k) ∧ wr = w)
  case atStart => exact ⟨0, by omega, rfl, rfl, rfl⟩
  case round =>
    obtain ⟨k, hk, rfl, rfl, rfl⟩ := hrel
    have hnx := sumK_next G h k
    have hl := hle'h.out k
    by_cases h8 : k < i + 1
    · have hlk := hl (by omega)
      clear hl
      generalize hy : sumK G h (k + 1) = y at *
      have hk'h := Lib.hid hk
      have hnx'h := Lib.hid hnx
      have hy'h := Lib.hid hy
      clear hk hnx hy
      go_wp2
      go_roundg (gk - 1)
      case measure => have := hk'h.out; omega
      case rel => exact ⟨k + 1, by have := hk'h.out; omega, by go_num, by rw [hy'h.out, hnx'h.out] <;> go_num, rfl⟩
    · obtain rfl : k = i + 1 := by omega
      have hr1 := hre'h.out
      have hr2 := hre2'h.out
      have hk'h := Lib.hid hk
      have hnx'h := Lib.hid hnx
      have hl'h := Lib.hid hl
      clear hk hnx hl
      go_wp2
      go_ret
      exact ⟨ret_i64 (by first | rfl | exact hr1 | exact hr2), rfl⟩
theorem info_i64 : (Try.prog.info? 3).map (fun i => (i.zero, i.size, i.bytes)) = some (some (.int .i64 0), 1, 8) := by kernel_rfl
theorem zN_snoc (l : List Nat) (x : Nat) : zN (l ++ [x]) = zN l ++ [.int .i64 x] := by unfold zN; rw [List.map_append, List.map_append]; rfl
theorem zN_at {l : List Nat} {j : Nat} (h : j < l.length) : (zN l)[j]? = some (.int .i64 (nthN l j)) := by
  unfold zN; rw [List.getElem?_map, List.getElem?_map, List.getElem?_eq_getElem h, nthN_eq h]; rfl
theorem nth_row {G h i : Nat} (hi : i < G) : nthN (rowB G h) i = prB G h i := by
  have h1 : i < (rowB G h).length := by rw [rowB_length]; exact hi
  have := rowB_at (h := h) hi
  rw [List.getElem?_eq_getElem h1, nthN_eq h1] at this
  exact Option.some.inj this
theorem row_take_next {G h k : Nat} (hk : k < G) : (rowB G h).take (k + 1) = (rowB G h).take k ++ [prB G h k] := by
  have h1 : k < (rowB G h).length := by rw [rowB_length]; exact hk
  rw [List.take_succ_eq_append_getElem h1, nthN_eq h1, nth_row hk]
set_option maxHeartbeats 1000000 in
theorem ref_row (G h : Nat) (w : World) (hG : goodB G = true) (hh : h < 2 ^ 64) : Calls Try.prog 41 #[.int .i64 G, .int .u64 h] w fun e w' => ∃ sp cap, e = .returned (.slice sp G cap) ∧ Below w.heap.size w w' ∧ w'.ownsRow w.heap.size 3 1 (.slice sp G cap) G (zN (rowB G h)) := by
  obtain ⟨i0, hi, hz0, hz1, hz2⟩ := info_parts info_i64
  have h0 := good_pos hG
  have h1 := good_le hG
  have hA := fun k w (hk : k < G) => ref_at G h k w hG hh hk
  have hnx := fun k (hk : k < G) => row_take_next (h := h) hk
  have hl := fun k => List.length_take_le k (rowB G h)
  have hfull : (rowB G h).take G = rowB G h := List.take_of_length_le (by rw [rowB_length]; omega)
  have hsn := fun k (hk : k < G) => zN_snoc ((rowB G h).take k) (prB G h k)
  generalize hrb : rowB G h = rb at *
  have hG'h := Lib.hid hG
  have hh'h := Lib.hid hh
  have hA'h := Lib.hid hA
  have hnx'h := Lib.hid hnx
  have hfull'h := Lib.hid hfull
  have hl'h := Lib.hid hl
  have hsn'h := Lib.hid hsn
  have hrb'h := Lib.hid hrb
  clear hG hh hA hnx hfull hl hsn hrb
  go_enter Try.func41, Try.ntmps41
  go_wp2
  go_loopg [5, 8] G (fun q v i wr => ∃ k : Nat, k + q = G ∧ i = .int .i64 k ∧ Below w.heap.size w wr ∧ wr.ownsRow w.heap.size 3 1 v k (zN (rb.take k)))
  case atStart => exact ⟨0, by omega, rfl, Below.refl _ _, World.ownsRow_nil _ _ _ _⟩
  case round =>
    obtain ⟨k, hk, rfl, hB, hrow⟩ := hrel
    have hsz := hB.size
    obtain ⟨sp1, cap1, rfl⟩ := row_slice' hrow
    by_cases hlt : k < G
    · have A := hA'h.out k wr hlt
      have hn := hnx'h.out k hlt
      have hs := hsn'h.out k hlt
      generalize prB G h k = x at *
      have hk'h := Lib.hid hk
      have hB'h := Lib.hid hB
      have hrow'h := Lib.hid hrow
      have A'h := Lib.hid A
      have hn'h := Lib.hid hn
      have hs'h := Lib.hid hs
      clear hk hB hrow A hn hs
      go_wp2_with fail
      refine (A'h.out).mono ?_
      rintro e w' ⟨rfl, rfl⟩
      go_wp2_with (first | (at_builtin; refine wpList_append _ rfl (.tmp 11) (.tmp 16) 64 rfl w.heap.size 3 i0 (.int .i64 0) 1 8 Try.underlying64 hi hz0 hz1 hz2 rfl (by decide) _ k _ rfl (hrow'h.out.alloc _) ⟨_, 0, none⟩ 1 1 [.int .i64 x] rfl rfl (cell_one_new _ _ _) (by simp [Value.oneCell']) (by unfold maxLen; omega) (by omega) (by simp; omega) (by decide) ?_; intro v' w1 hown' hgrow hwh))
      go_roundg (gk - 1)
      case measure => have := hk'h.out; omega
      case rel =>
        refine ⟨k + 1, by have := hk'h.out; omega, by go_num, (hB'h.out.alloc hsz _).grown hgrow (by simp; omega) (fun j hj => (hrow'h.out.lt j hj).1), ?_⟩
        rw [hn'h.out, hs'h.out]
        exact hown'
    · obtain rfl : k = G := by omega
      rw [hfull'h.out] at hrow
      have hk'h := Lib.hid hk
      have hB'h := Lib.hid hB
      have hrow'h := Lib.hid hrow
      clear hk hB hrow
      have hlen : ∃ sp cap, (Value.slice sp1 k cap1) = .slice sp cap cap1 := ⟨_, _, rfl⟩
      clear hlen
      go_wp2
      go_ret
      exact ⟨sp1, cap1, rfl, hB'h.out, hrow'h.out⟩
/-! ### Far -/
def farQ (G : Nat) (hs : List Nat) (h k : Nat) : List Nat := (List.range G).map fun g => farK G hs g + if g < k then placeB G h g else 0
theorem farQ_zero (G : Nat) (hs : List Nat) (h : Nat) : farQ G hs h 0 = farL G hs := by unfold farQ farL; simp
theorem farQ_full (G : Nat) (hs : List Nat) (h : Nat) : farQ G hs h G = farL G (hs ++ [h]) := by
  unfold farQ farL
  refine List.map_congr_left fun g hg => ?_
  rw [farK_snoc, if_pos (List.mem_range.1 hg)]
theorem farQ_length (G : Nat) (hs : List Nat) (h k : Nat) : (farQ G hs h k).length = G := by unfold farQ; simp
theorem farQ_at {G : Nat} {hs : List Nat} {h k : Nat} (hk : k < G) : nthN (farQ G hs h k) k = farK G hs k := by
  have h1 : k < (farQ G hs h k).length := by rw [farQ_length]; exact hk
  rw [← nthN_eq h1]
  simp [farQ]
theorem farQ_next {G : Nat} {hs : List Nat} {h k : Nat} (hk : k < G) : (farQ G hs h k).set k (farK G hs k + placeB G h k) = farQ G hs h (k + 1) := by
  unfold farQ
  apply List.ext_getElem (by simp)
  intro i h1 h2
  simp only [List.getElem_map, List.getElem_range, List.getElem_set]
  by_cases e : k = i
  · subst e
    rw [if_pos rfl, if_pos (by omega)]
  · rw [if_neg e]
    by_cases h3 : i < k
    · rw [if_pos h3, if_pos (by omega)]
    · rw [if_neg h3, if_neg (by omega)]
end Go.Proofs.Ytoklgjlmjkhmbaa
