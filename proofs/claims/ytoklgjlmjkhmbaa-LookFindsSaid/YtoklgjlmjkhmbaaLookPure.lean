/-
  Who looks for a key, in plain Lean.
-/
import Derived.Test.YtoklgjlmjkhmbaaLanesC
import Derived.Test.YtoklgjlmjkhmbaaLanesR
import Derived.Test.YtoklgjlmjkhmbaaProbePure
set_option linter.unusedSimpArgs false
set_option linter.unusedVariables false
namespace Go.Proofs.Ytoklgjlmjkhmbaa
open Go.RowKit

theorem equalM_lt8 (w b : Nat) : equalM w b < 256 := maskOf_lt _ (by simp)
structure Sg where
  phase : Int
  slab : Int
  key : Nat
  hash : Nat
  began : Nat
  grp : Int
  ctrl : Nat
  left : Nat
  value : Nat
  found : Bool
deriving DecidableEq
def sgA (s : Sg) : Array Value := #[.int .i64 s.phase, .int .i64 s.slab, .int .u64 s.key, .int .u64 s.hash, .int .u64 s.began, .int .i64 s.grp, .int .u64 s.ctrl, .int .u8 s.left, .int .u64 s.value, .bool s.found]
/-- As the types have it. -/
structure SgOk (s : Sg) : Prop where
  phase : -9223372036854775808 ≤ s.phase ∧ s.phase ≤ 9223372036854775807
  slab : -9223372036854775808 ≤ s.slab ∧ s.slab ≤ 9223372036854775807
  key : s.key < 2 ^ 64
  hash : s.hash < 2 ^ 64
  began : s.began < 2 ^ 64
  grp : -9223372036854775808 ≤ s.grp ∧ s.grp ≤ 9223372036854775807
  ctrl : s.ctrl < 2 ^ 64
  left : s.left < 256
  value : s.value < 2 ^ 64
/-- As the chapter has it. -/
structure SgRight (s : Sg) : Prop where
  phase : 0 ≤ s.phase ∧ s.phase ≤ 6
  slab : 0 ≤ s.slab ∧ s.slab < 128
  even : s.began % 2 = 0
  grp : 0 ≤ s.grp ∧ s.grp ≤ 1
  left : s.left ≠ 0 ∨ (s.phase ≠ 2 ∧ s.phase ≠ 3)
def rightS (s : Sg) : Bool := decide (0 ≤ s.phase ∧ s.phase ≤ 6) && decide (0 ≤ s.slab ∧ s.slab < 128) && decide (s.began % 2 = 0) && decide (0 ≤ s.grp ∧ s.grp ≤ 1) && decide (s.left ≠ 0 ∨ (s.phase ≠ 2 ∧ s.phase ≠ 3))
theorem rightS_iff (s : Sg) : rightS s = true ↔ SgRight s := by
  unfold rightS
  simp only [Bool.and_eq_true, decide_eq_true_eq]
  constructor
  · rintro ⟨⟨⟨⟨h1, h2⟩, h3⟩, h4⟩, h5⟩; exact ⟨h1, h2, h3, h4, h5⟩
  · rintro ⟨h1, h2, h3, h4, h5⟩; exact ⟨⟨⟨⟨h1, h2⟩, h3⟩, h4⟩, h5⟩
/-- Has it a load? (of one that may be) -/
def hasS (s : Sg) : Bool := decide (s.phase ≤ 4)
def grpS (s : Sg) : Nat := prB 2 (s.hash / 128) s.grp.toNat
def wordS (s : Sg) : Nat := if s.phase = 1 then 4 + grpS s else if s.phase = 2 then 6 + (8 * grpS s + firstLane s.left) else if s.phase = 3 then 22 + (8 * grpS s + firstLane s.left) else 0
def cellS (s : Sg) : Nat := 16 + 40 * s.slab.toNat + wordS s
def onS (s : Sg) : Sg := if s.left ≠ 0 then { s with phase := 2 } else if equalM s.ctrl 128 ≠ 0 ∨ s.grp = 1 then { s with phase := 4 } else { s with phase := 1, grp := s.grp + 1 }
def dropM (m : Nat) : Nat := m &&& (m - 1)
def takeS (s : Sg) (w : Nat) : Sg :=
  if s.phase = 0 then (if w % 2 = 1 then { s with phase := 6 } else { s with phase := 1, began := w, grp := 0 })
  else if s.phase = 1 then onS { s with ctrl := w, left := equalM w (s.hash % 128) }
  else if s.phase = 2 then (if w = s.key then { s with phase := 3 } else onS { s with left := dropM s.left })
  else if s.phase = 3 then { s with value := w, found := true, phase := 4 }
  else { s with phase := if w = s.began then 5 else 6 }
theorem grpS_lt (s : Sg) : grpS s < 2 := by unfold grpS prB; exact Nat.mod_lt _ (by decide)
theorem firstLane_lt : ∀ m : Fin 256, firstLane m.val < 8 := by decide +kernel
theorem firstLane_lt' {m : Nat} (h : m < 256) : firstLane m < 8 := firstLane_lt ⟨m, h⟩
theorem wordS_lt {s : Sg} (h : SgOk s) : wordS s < 38 := by
  unfold wordS
  have := grpS_lt s
  have := firstLane_lt' h.left
  split
  · omega
  · split
    · omega
    · split <;> omega
theorem dropM_lt (m : Nat) (h : m < 256) : dropM m < 256 := Nat.lt_of_le_of_lt Nat.and_le_left h
theorem dropM_less : ∀ m : Fin 256, m.val ≠ 0 → dropM m.val < m.val := by decide +kernel
theorem onS_ok {s : Sg} (h : SgOk s) (hg : s.grp ≤ 1) : SgOk (onS s) := by
  unfold onS
  split
  · exact ⟨by simp, h.slab, h.key, h.hash, h.began, h.grp, h.ctrl, h.left, h.value⟩
  · split
    · exact ⟨by simp, h.slab, h.key, h.hash, h.began, h.grp, h.ctrl, h.left, h.value⟩
    · exact ⟨by simp, h.slab, h.key, h.hash, h.began, by have := h.grp; simp; omega, h.ctrl, h.left, h.value⟩
theorem takeS_ok {s : Sg} {w : Nat} (h : SgOk s) (hr : SgRight s) (hw : w < 2 ^ 64) : SgOk (takeS s w) := by
  obtain ⟨h1, h2, h3, h4, h5, h6, h7, h8, h9⟩ := h
  have hg := hr.grp
  unfold takeS
  split
  · split
    · exact ⟨by simp, h2, h3, h4, h5, h6, h7, h8, h9⟩
    · exact ⟨by simp, h2, h3, h4, hw, by simp, h7, h8, h9⟩
  · split
    · exact onS_ok ⟨h1, h2, h3, h4, h5, h6, hw, equalM_lt8 _ _, h9⟩ (by simpa using hg.2)
    · split
      · split
        · exact ⟨by simp, h2, h3, h4, h5, h6, h7, h8, h9⟩
        · exact onS_ok ⟨h1, h2, h3, h4, h5, h6, h7, dropM_lt _ h8, h9⟩ (by simpa using hg.2)
      · split
        · exact ⟨by simp, h2, h3, h4, h5, h6, h7, h8, hw⟩
        · exact ⟨by simp only; split <;> simp, h2, h3, h4, h5, h6, h7, h8, h9⟩
theorem onS_right {s : Sg} (hr : SgRight { s with phase := 1 }) : SgRight (onS s) := by
  obtain ⟨h1, h2, h3, h4, h5⟩ := hr
  simp only at h1 h2 h3 h4
  unfold onS
  by_cases hl : s.left = 0
  · rw [if_neg (by simpa using hl)]
    by_cases he : equalM s.ctrl 128 ≠ 0 ∨ s.grp = 1
    · rw [if_pos he]; exact ⟨by simp, h2, h3, h4, by simp⟩
    · rw [if_neg he]
      have : s.grp ≠ 1 := fun e => he (.inr e)
      exact ⟨by simp, h2, h3, by simp; omega, by simp⟩
  · rw [if_pos hl]; exact ⟨by simp, h2, h3, h4, .inl hl⟩
theorem takeS_right {s : Sg} {w : Nat} (hr : SgRight s) : SgRight (takeS s w) := by
  obtain ⟨h1, h2, h3, h4, h5⟩ := hr
  unfold takeS
  by_cases p0 : s.phase = 0
  · rw [if_pos p0]
    split
    · exact ⟨by simp, h2, h3, h4, by simp⟩
    · exact ⟨by simp, h2, by simp only; omega, by simp, by simp⟩
  · rw [if_neg p0]
    by_cases p1 : s.phase = 1
    · rw [if_pos p1]; exact onS_right ⟨by simp, h2, h3, h4, by simp⟩
    · rw [if_neg p1]
      by_cases p2 : s.phase = 2
      · rw [if_pos p2]
        split
        · refine ⟨by simp, h2, h3, h4, .inl ?_⟩
          rcases h5 with h | h
          · exact h
          · exact absurd p2 h.1
        · exact onS_right ⟨by simp, h2, h3, h4, by simp⟩
      · rw [if_neg p2]
        by_cases p3 : s.phase = 3
        · rw [if_pos p3]; exact ⟨by simp, h2, h3, h4, by simp⟩
        · rw [if_neg p3]
          exact ⟨by simp only; split <;> simp, h2, h3, h4, .inr ⟨by simp only; split <;> decide, by simp only; split <;> decide⟩⟩
/-- How much is left to do. -/
def restS (s : Sg) : Nat := if s.phase = 0 then 1000 else if s.phase = 1 then 900 - 300 * s.grp.toNat else if s.phase = 2 then 600 - 300 * s.grp.toNat + s.left else if s.phase = 3 then 2 else if s.phase = 4 then 1 else 0
theorem restS_on {s : Sg} (hg : 0 ≤ s.grp ∧ s.grp ≤ 1) (hl : s.left < 256) : restS (onS s) < 900 - 300 * s.grp.toNat ∧ (s.left = 0 → restS (onS s) ≤ 600 - 300 * s.grp.toNat) ∧ (s.left ≠ 0 → restS (onS s) = 600 - 300 * s.grp.toNat + s.left) := by
  unfold onS
  by_cases h0 : s.left = 0
  · rw [if_neg (by simpa using h0)]
    by_cases he : equalM s.ctrl 128 ≠ 0 ∨ s.grp = 1
    · rw [if_pos he]
      have e : restS { s with phase := 4 } = 1 := by unfold restS; simp
      rw [e]; refine ⟨by omega, fun _ => by omega, fun h => absurd h0 h⟩
    · rw [if_neg he]
      have hg1 : s.grp ≠ 1 := fun e => he (.inr e)
      have hg0 : s.grp = 0 := by omega
      have e : restS { s with phase := 1, grp := s.grp + 1 } = 600 := by unfold restS; simp [hg0]
      rw [e, hg0]; refine ⟨by decide, fun _ => by decide, fun h => absurd h0 h⟩
  · rw [if_pos h0]
    have e : restS { s with phase := 2 } = 600 - 300 * s.grp.toNat + s.left := by unfold restS; simp
    rw [e]; refine ⟨by omega, fun h => absurd h h0, fun _ => rfl⟩
theorem restS_take {s : Sg} {w : Nat} (h : SgOk s) (hr : SgRight s) (hh : hasS s = true) : restS (takeS s w) < restS s := by
  have hl := h.left
  have hg := hr.grp
  have hp := hr.phase
  have h4 : s.phase ≤ 4 := by simpa [hasS] using hh
  by_cases p0 : s.phase = 0
  · have e : restS s = 1000 := by unfold restS; rw [if_pos p0]
    rw [e]
    unfold takeS
    rw [if_pos p0]
    split
    · unfold restS; simp
    · unfold restS; simp
  · by_cases p1 : s.phase = 1
    · have e : restS s = 900 - 300 * s.grp.toNat := by unfold restS; rw [if_neg p0, if_pos p1]
      rw [e]
      unfold takeS
      rw [if_neg p0, if_pos p1]
      exact (restS_on (s := { s with ctrl := w, left := equalM w (s.hash % 128) }) hg (equalM_lt8 _ _)).1
    · by_cases p2 : s.phase = 2
      · have e : restS s = 600 - 300 * s.grp.toNat + s.left := by unfold restS; rw [if_neg p0, if_neg p1, if_pos p2]
        have h0 : s.left ≠ 0 := by rcases hr.left with h | h
                                   · exact h
                                   · exact absurd p2 h.1
        rw [e]
        unfold takeS
        rw [if_neg p0, if_neg p1, if_pos p2]
        split
        · have e3 : restS { s with phase := 3 } = 2 := by unfold restS; simp
          rw [e3]; omega
        · have hd := dropM_less ⟨s.left, hl⟩ h0
          simp only at hd
          obtain ⟨q1, q2, q3⟩ := restS_on (s := { s with left := dropM s.left }) hg (dropM_lt _ hl)
          simp only at q1 q2 q3
          by_cases hd0 : dropM s.left = 0
          · have := q2 hd0; omega
          · have := q3 hd0; omega
      · by_cases p3 : s.phase = 3
        · have e : restS s = 2 := by unfold restS; rw [if_neg p0, if_neg p1, if_neg p2, if_pos p3]
          rw [e]
          unfold takeS
          rw [if_neg p0, if_neg p1, if_neg p2, if_pos p3]
          unfold restS; simp
        · have p4 : s.phase = 4 := by omega
          have e : restS s = 1 := by unfold restS; rw [if_neg p0, if_neg p1, if_neg p2, if_neg p3, if_pos p4]
          rw [e]
          unfold takeS
          rw [if_neg p0, if_neg p1, if_neg p2, if_neg p3]
          by_cases hw : w = s.began
          · rw [if_pos hw]; unfold restS; simp
          · rw [if_neg hw]; unfold restS; simp
theorem rest_pos {s : Sg} (hr : SgRight s) (hh : hasS s = true) : 0 < restS s := by
  have hp := hr.phase
  have hg := hr.grp
  have h4 : s.phase ≤ 4 := by simpa [hasS] using hh
  unfold restS
  split
  · decide
  · split
    · omega
    · split
      · omega
      · split
        · decide
        · rw [if_pos (by omega)]; decide
/-- All its loads. -/
def runF (ws : List Nat) : Nat → Sg → Nat → Sg × Nat
  | 0, s, n => (s, n)
  | q + 1, s, n => if hasS s = true then runF ws q (takeS s (nthN ws (cellS s))) (n + 1) else (s, n)
def beginS (slab : Int) (key hash : Nat) : Sg := ⟨0, slab, key, hash, 0, 0, 0, 0, 0, false⟩
def runS (ws : List Nat) (slab : Int) (key hash : Nat) : Sg × Nat := runF ws 1000 (beginS slab key hash) 0
theorem runF_stop {ws : List Nat} {q n : Nat} {s : Sg} (h : hasS s = false) : runF ws q s n = (s, n) := by
  cases q with
  | zero => rfl
  | succ q => unfold runF; rw [h]; rfl
theorem runF_step {ws : List Nat} {q n : Nat} {s : Sg} (h : hasS s = true) : runF ws (q + 1) s n = runF ws q (takeS s (nthN ws (cellS s))) (n + 1) := by
  rw [runF, if_pos h]
end Go.Proofs.Ytoklgjlmjkhmbaa
