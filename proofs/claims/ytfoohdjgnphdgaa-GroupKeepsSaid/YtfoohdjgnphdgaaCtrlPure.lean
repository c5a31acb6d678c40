/-
  Control words, in plain Lean.
-/
import Derived.Test.YtfoohdjgnphdgaaLanesPure
import Derived.Test.YtfoohdjgnphdgaaLanesC
import Derived.Test.YtfoohdjgnphdgaaLanesR
set_option linter.unusedSimpArgs false
set_option linter.unusedVariables false
namespace Go.Proofs.Ytfoohdjgnphdgaa
open Go.RowKit

theorem maskOf_lt' (f : Nat → Bool) : maskOf ((List.range 8).map f) < 256 := maskOf_lt _ (by simp)
theorem equalM_lt' (w b : Nat) : equalM w b < 256 := maskOf_lt' _
theorem belowM_lt' (w b : Nat) : belowM w b < 256 := maskOf_lt' _
theorem tb_range' (f : Nat → Bool) (i : Nat) : (maskOf ((List.range 8).map f)).testBit i = (decide (i < 8) && f i) := by
  rw [testBit_maskOf, getD_range]
theorem mask_or (f g : Nat → Bool) : maskOf ((List.range 8).map f) ||| maskOf ((List.range 8).map g) = maskOf ((List.range 8).map fun i => f i || g i) := Nat.eq_of_testBit_eq fun i => by
  rw [Nat.testBit_or, tb_range', tb_range', tb_range']; cases decide (i < 8) <;> simp
theorem mask_and (f g : Nat → Bool) : maskOf ((List.range 8).map f) &&& maskOf ((List.range 8).map g) = maskOf ((List.range 8).map fun i => f i && g i) := Nat.eq_of_testBit_eq fun i => by
  rw [Nat.testBit_and, tb_range', tb_range', tb_range']; cases decide (i < 8) <;> simp
theorem mask_full : maskOf ((List.range 8).map fun _ => true) = 255 := by decide
theorem mask_none : maskOf ((List.range 8).map fun _ => false) = 0 := by decide
theorem mask_one : ∀ n, n < 8 → maskOf ((List.range 8).map fun i => i == n) = 2 ^ n := by decide
theorem mask_eq {f g : Nat → Bool} : maskOf ((List.range 8).map f) = maskOf ((List.range 8).map g) ↔ ∀ i, i < 8 → f i = g i := by
  constructor
  · intro h i hi
    have := congrArg (Nat.testBit · i) h
    simp only [tb_range', hi, decide_true, Bool.true_and] at this
    exact this
  · intro h
    refine Nat.eq_of_testBit_eq fun i => ?_
    rw [tb_range', tb_range']
    by_cases hi : i < 8
    · rw [h i hi]
    · simp [hi]

/-- May a control byte be? -/
def okB (b : Nat) : Bool := decide (b < 128) || (b == 128) || (b == 254)
def rightW (x : Nat) : Bool := (List.range 8).all fun i => okB (byteAt x i)
theorem rightW_iff (x : Nat) : rightW x = true ↔ ∀ i, i < 8 → okB (byteAt x i) = true := by
  unfold rightW; rw [List.all_eq_true]
  constructor
  · intro h i hi; exact h i (List.mem_range.2 hi)
  · intro h i hi; exact h i (List.mem_range.1 hi)
theorem fullM_def (x : Nat) : belowM x 128 = maskOf ((List.range 8).map fun i => decide (byteAt x i < 128)) := rfl
theorem equalM_def (x b : Nat) : equalM x b = maskOf ((List.range 8).map fun i => byteAt x i == b) := rfl
theorem or3 (x : Nat) : (belowM x 128 ||| equalM x 128) ||| equalM x 254 = maskOf ((List.range 8).map fun i => okB (byteAt x i)) := by
  rw [fullM_def, equalM_def, equalM_def, mask_or, mask_or]; rfl
theorem check_iff (x : Nat) : ((belowM x 128 ||| equalM x 128) ||| equalM x 254 = 255) ↔ rightW x = true := by
  rw [or3, ← mask_full, mask_eq, rightW_iff]
theorem byteAt_set (x n b i : Nat) (hb : b < 256) (hi : i < 8) (hn : n < 8) : byteAt (setLane x n b) i = if i = n then b else byteAt x i := by
  unfold setLane
  have hB : Bytey ((bytes8 x).set n b) := by
    intro c hc
    rcases List.mem_or_eq_of_mem_set hc with h | h
    · exact bytes8_bytey x c h
    · rw [h]; exact hb
  rw [byteAt_word hB, List.getD_eq_getElem?_getD, List.getElem?_set]
  by_cases h : n = i
  · subst h; rw [if_pos rfl, if_pos (by rw [length_bytes8]; exact hn), if_pos rfl]; rfl
  · rw [if_neg h, if_neg (fun e => h e.symm), ← List.getD_eq_getElem?_getD, bytes8_getD x i hi]
theorem set_right {x n b : Nat} (h : rightW x = true) (hb : okB b = true) (hb2 : b < 256) (hn : n < 8) : rightW (setLane x n b) = true := by
  rw [rightW_iff] at h ⊢
  intro i hi
  rw [byteAt_set x n b i hb2 hi hn]
  split
  · exact hb
  · exact h i hi
/-- The first error of a filling, and of an erasing; 0: none. -/
def fullAt (x n : Nat) : Bool := decide (byteAt x n < 128)
def fillE (x : Nat) (lane : Int) (h : Nat) : Nat := if ¬ (0 ≤ lane ∧ lane < 8) then 110 else if ¬ h ≤ 127 then 2 else if fullAt x lane.toNat = true then 5 else 0
def eraseE (x : Nat) (lane : Int) : Nat := if ¬ (0 ≤ lane ∧ lane < 8) then 110 else if ¬ fullAt x lane.toNat = true then 4 else 0
def stopsW (x : Nat) : Bool := decide (equalM x 128 ≠ 0)
def eraseB (x : Nat) : Nat := if stopsW x = true then 128 else 254
theorem full_bit (x n : Nat) (hn : n < 8) : (belowM x 128 &&& 2 ^ n = 0) ↔ fullAt x n = false := by
  rw [fullM_def, ← mask_one n hn, mask_and, ← mask_none, mask_eq]
  constructor
  · intro h; have := h n hn; unfold fullAt; simpa using this
  · intro h i hi
    by_cases e : i = n
    · subst e; unfold fullAt at h; simp [h]
    · simp [e]
theorem stopsW_iff (x : Nat) : stopsW x = true ↔ ∃ i, i < 8 ∧ byteAt x i = 128 := by
  unfold stopsW
  rw [decide_eq_true_iff, equalM_def, ← mask_none]
  constructor
  · intro h
    refine Classical.byContradiction fun hn => h (mask_eq.2 fun i hi => ?_)
    have : byteAt x i ≠ 128 := fun e => hn ⟨i, hi, e⟩
    simpa using this
  · rintro ⟨i, hi, e⟩ h
    have := mask_eq.1 h i hi
    simp [e] at this
end Go.Proofs.Ytfoohdjgnphdgaa
