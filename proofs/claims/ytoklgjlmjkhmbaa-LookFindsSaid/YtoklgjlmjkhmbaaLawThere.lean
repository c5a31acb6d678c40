/-
  The walk of LanesThere: it answers true.
-/
import Derived.Test.YtoklgjlmjkhmbaaLanesW
set_option linter.unusedSimpArgs false
set_option linter.unusedVariables false
namespace Go.Proofs.Ytoklgjlmjkhmbaa
open Go.RowKit

theorem byteAt_setLane (x n b i : Nat) (hn : n < 8) (hb : b < 256) (hi : i < 8) : byteAt (setLane x n b) i = if i = n then b else byteAt x i := by
  unfold setLane
  have hy : Bytey ((bytes8 x).set n b) := by
    intro c hc
    rcases List.mem_or_eq_of_mem_set hc with h | h
    · exact bytes8_bytey _ _ h
    · omega
  rw [byteAt_word hy, List.getD_eq_getElem?_getD, List.getElem?_set, length_bytes8]
  by_cases h : n = i
  · subst h; simp [hn]
  · rw [if_neg h, if_neg (Ne.symm h), ← List.getD_eq_getElem?_getD, bytes8_getD _ _ hi]
theorem setLane_self (x n b : Nat) (hx : x < 2 ^ 64) (hn : n < 8) (hb : b < 256) (h : byteAt x n = b) : setLane x n b = x := by
  refine word_ext (setLane_lt _ _ _ hb) hx fun i hi => ?_
  rw [byteAt_setLane x n b i hn hb hi]
  split
  · subst i; exact h.symm
  · rfl
theorem alike_self (x : Nat) : alikeM x x = 255 := by
  unfold alikeM alikeL
  simp only [beq_self_eq_true]
  decide +kernel
theorem mask_but : ∀ n : Fin 8, maskOf ((List.range 8).map fun i => !(i == n.val)) = 255 - 2 ^ n.val := by decide +kernel
theorem alike_set (x n b : Nat) (hn : n < 8) (hb : b < 256) (h : byteAt x n ≠ b) : alikeM (setLane x n b) x = 255 - 2 ^ n := by
  rw [← mask_but ⟨n, hn⟩]
  unfold alikeM alikeL
  congr 1
  apply List.map_congr_left
  intro i hi
  rw [byteAt_setLane x n b i hn hb (List.mem_range.1 hi)]
  by_cases e : i = n
  · subst e
    rw [if_pos rfl]
    simp [Ne.symm h]
  · rw [if_neg e]; simp [e]
theorem testBit_maskOf : ∀ (l : List Bool) (n : Nat), (maskOf l).testBit n = l.getD n false
  | [], n => by simp [maskOf]
  | c :: r, 0 => by simp only [maskOf]; cases c <;> simp [Nat.testBit_zero] <;> omega
  | c :: r, n + 1 => by
    have := testBit_maskOf r n
    rw [Nat.testBit_succ, maskOf, show ((if c = true then 1 else 0) + 2 * maskOf r) / 2 = maskOf r by split <;> omega, this]
    simp
theorem maskOf_lt : ∀ (l : List Bool), l.length ≤ 8 → maskOf l < 256 := by
  intro l hl
  have key : ∀ l : List Bool, maskOf l < 2 ^ l.length := by
    intro l
    induction l with
    | nil => simp [maskOf]
    | cons c r ih => simp only [maskOf, List.length_cons, Nat.pow_succ]; split <;> omega
  exact Nat.lt_of_lt_of_le (key l) (Nat.le_trans (Nat.pow_le_pow_right (by decide) hl) (by decide))
theorem equal_set (x n b : Nat) (hn : n < 8) (hb : b < 256) : equalM (setLane x n b) b &&& 2 ^ n ≠ 0 := by
  have h : (equalM (setLane x n b) b).testBit n = true := by
    unfold equalM
    rw [testBit_maskOf, List.getD_eq_getElem?_getD, List.getElem?_map, List.getElem?_range hn]
    simp [byteAt_setLane x n b n hn hb hn]
  intro h0
  have := Nat.testBit_and (equalM (setLane x n b) b) (2 ^ n) n
  rw [h0, h, Nat.testBit_two_pow_self] at this
  simp at this
theorem ofW_bytes8 (x : Nat) (hx : x < 2 ^ 64) : ofW (bytes8 x) = x := by
  unfold ofW
  rw [List.take_of_length_le (by rw [length_bytes8]; exact Nat.le_refl _), word_bytes8 hx]
theorem u8s_bytes8 (x : Nat) : (bytesA x).toList = u8s (bytes8 x) := rfl

end Go.Proofs.Ytoklgjlmjkhmbaa
