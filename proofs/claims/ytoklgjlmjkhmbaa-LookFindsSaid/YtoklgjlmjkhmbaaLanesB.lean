/-
  The functions of package lanes that make words of bytes, and bytes of words.
-/
import Derived.Test.YtoklgjlmjkhmbaaLanes
import Derived.Laws.CopyOwn
set_option linter.unusedSimpArgs false
set_option linter.unusedVariables false
namespace Go.Proofs.Ytoklgjlmjkhmbaa
open Go.RowKit

def sofar (x k j : Nat) : Nat := if j < k then byteAt x j else 0
def sofarA (x k : Nat) : Array Value := #[.int .u8 (sofar x k 0), .int .u8 (sofar x k 1), .int .u8 (sofar x k 2), .int .u8 (sofar x k 3), .int .u8 (sofar x k 4), .int .u8 (sofar x k 5), .int .u8 (sofar x k 6), .int .u8 (sofar x k 7)]
theorem sofarA_succ (x k : Nat) (hk : k < 8) : (sofarA x k).setIfInBounds k (.int .u8 (byteAt x k)) = sofarA x (k + 1) := by
  obtain rfl | rfl | rfl | rfl | rfl | rfl | rfl | rfl : k = 0 ∨ k = 1 ∨ k = 2 ∨ k = 3 ∨ k = 4 ∨ k = 5 ∨ k = 6 ∨ k = 7 := by omega
  all_goals rfl
def bytesA (x : Nat) : Array Value := #[.int .u8 (byteAt x 0), .int .u8 (byteAt x 1), .int .u8 (byteAt x 2), .int .u8 (byteAt x 3), .int .u8 (byteAt x 4), .int .u8 (byteAt x 5), .int .u8 (byteAt x 6), .int .u8 (byteAt x 7)]

theorem sofarA_size (x k : Nat) : (sofarA x k).size = 8 := rfl
theorem sofarA_one (x k : Nat) : (sofarA x k).all (·.oneCell') = true := by simp [sofarA, Value.oneCell']
theorem sofarA_full (x : Nat) : sofarA x 8 = bytesA x := rfl
/-! ### Of -/
/-- The word of the first k of eight bytes. -/
def partW (c : Nat → Nat) (k : Nat) : Nat := word ((List.range 8).map fun i => if i < k then c i else 0)
theorem partW_bytey (c : Nat → Nat) (hc : ∀ i, c i < 256) (k : Nat) : Bytey ((List.range 8).map fun i => if i < k then c i else 0) := by
  refine fun b hb => ?_
  obtain ⟨i, _, rfl⟩ := List.mem_map.1 hb
  split
  · exact hc i
  · decide
theorem partW_lt (c : Nat → Nat) (hc : ∀ i, c i < 256) (k : Nat) : partW c k < 2 ^ 64 := word8_lt (partW_bytey c hc k) (by simp)
theorem partW_succ (c : Nat → Nat) (hc : ∀ i, c i < 256) (k : Nat) (hk : k < 8) : partW c (k + 1) = setLane (partW c k) k (c k) := by
  unfold setLane
  conv => rhs; unfold partW
  rw [bytes8_word (partW_bytey c hc k) (by simp)]
  unfold partW
  congr 1
  apply List.ext_getElem (by simp)
  intro i h1 h2
  simp only [List.getElem_map, List.getElem_range, List.getElem_set]
  by_cases h : k = i
  · subst h; simp
  · rw [if_neg h]
    by_cases h3 : i < k
    · rw [if_pos (by omega), if_pos h3]
    · rw [if_neg (by omega), if_neg h3]
theorem partW_zero (c : Nat → Nat) : partW c 0 = 0 := by unfold partW; simp [word, List.range, List.range.loop]

theorem info_u8 : (Try.prog.info? 5).map (·.size) = some 1 := by kernel_rfl
/-- The bytes of a list of numbers. -/
def u8s (l : List Nat) : List Value := l.map fun (b : Nat) => .int .u8 (b : Int)
theorem u8s_one (l : List Nat) : ∀ v ∈ u8s l, v.oneCell' = true := by intro v hv; obtain ⟨b, _, rfl⟩ := List.mem_map.1 hv; rfl
def ofW (l : List Nat) : Nat := word (l.take 8)

theorem getD_lt {l : List Nat} (h : Bytey l) (i : Nat) : nthN l i < 256 := by
  unfold nthN
  rw [List.getD_eq_getElem?_getD]
  by_cases hi : i < l.length
  · rw [List.getElem?_eq_getElem hi]; exact h _ (List.getElem_mem hi)
  · rw [List.getElem?_eq_none (by omega)]; decide
theorem ofW_eq (l : List Nat) (h : Bytey l) : partW (nthN l) 8 = ofW l := by
  have ht : Bytey (l.take 8) := fun b hb => h b (List.mem_of_mem_take hb)
  refine word_ext (partW_lt _ (getD_lt h) 8) ?_ (fun i hi => ?_)
  · have h1 := word_lt ht
    exact Nat.lt_of_lt_of_le h1 (Nat.le_trans (Nat.pow_le_pow_right (by decide) (show (l.take 8).length ≤ 8 by simp; omega)) (by decide))
  · unfold partW ofW
    rw [byteAt_word (partW_bytey _ (getD_lt h) 8), byteAt_word ht]
    unfold nthN
    simp only [List.getD_eq_getElem?_getD, List.getElem?_map, List.getElem?_range hi, Option.map_some, Option.getD_some, hi, if_true, List.getElem?_take]

def zeros8 : List Value := [.int .u8 0, .int .u8 0, .int .u8 0, .int .u8 0, .int .u8 0, .int .u8 0, .int .u8 0, .int .u8 0]
theorem zeros8_get (i : Nat) (h : i < 8) : zeros8[i]? = some (.int .u8 0) := by
  obtain rfl | rfl | rfl | rfl | rfl | rfl | rfl | rfl : i = 0 ∨ i = 1 ∨ i = 2 ∨ i = 3 ∨ i = 4 ∨ i = 5 ∨ i = 6 ∨ i = 7 := by omega
  all_goals rfl
theorem splice_get (l : List Nat) (i : Nat) (hi : i < 8) : (splice zeros8 0 ((u8s l).take 8))[i]? = some (.int .u8 (nthN l i)) := by
  unfold splice nthN
  simp only [List.take_zero, List.nil_append, Nat.zero_add]
  by_cases h : i < l.length
  · rw [List.getElem?_append_left (by simp [u8s]; omega), List.getElem?_take, if_pos hi]
    simp [u8s, List.getElem?_eq_getElem h]
  · rw [List.getElem?_append_right (by simp [u8s]; omega), List.getElem?_drop, zeros8_get _ (by simp [u8s]; omega)]
    simp [List.getElem?_eq_none (show l.length ≤ i by omega)]

end Go.Proofs.Ytoklgjlmjkhmbaa
