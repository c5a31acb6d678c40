/-
  Slices of arrays of two words, as they read; slices.Clone there.
-/
import Derived.Test.YtifofdciablljaaDoorHas
set_option linter.unusedSimpArgs false
set_option linter.unusedVariables false
namespace Go.Proofs.YtifofdciablljaaDoor
open Go.RowKit

def prs (ks : List (Nat × Nat)) : List Value := ks.flatMap fun p => [.int .u64 (p.1 : Int), .int .u64 (p.2 : Int)]
def nthP (ks : List (Nat × Nat)) (k : Nat) : Nat × Nat := ks.getD k (0, 0)
def P64 (ks : List (Nat × Nat)) : Prop := ∀ p ∈ ks, p.1 < 2 ^ 64 ∧ p.2 < 2 ^ 64
theorem nthP_eq {l : List (Nat × Nat)} {k : Nat} (h : k < l.length) : l[k] = nthP l k := by unfold nthP; rw [List.getD_eq_getElem?_getD, List.getElem?_eq_getElem h]; rfl
theorem nthP_mem {l : List (Nat × Nat)} {k : Nat} (h : k < l.length) : nthP l k ∈ l := by rw [← nthP_eq h]; exact List.getElem_mem h
theorem prs_length (ks : List (Nat × Nat)) : (prs ks).length = ks.length * 2 := by
  induction ks with
  | nil => rfl
  | cons p l ih => unfold prs at *; rw [List.flatMap_cons, List.length_append, ih]; simp; omega
theorem prs_append (a b : List (Nat × Nat)) : prs (a ++ b) = prs a ++ prs b := by unfold prs; rw [List.flatMap_append]
theorem prs_one (ks : List (Nat × Nat)) : ∀ v ∈ prs ks, v.oneCell' = true := by
  intro v hv
  unfold prs at hv
  obtain ⟨p, _, hp⟩ := List.mem_flatMap.1 hv
  simp at hp
  rcases hp with rfl | rfl <;> rfl
theorem prs_at {ks : List (Nat × Nat)} {k : Nat} (h : k < ks.length) : (prs ks)[k * 2]? = some (.int .u64 ((nthP ks k).1 : Int)) ∧ (prs ks)[k * 2 + 1]? = some (.int .u64 ((nthP ks k).2 : Int)) := by
  induction ks generalizing k with
  | nil => simp at h
  | cons p l ih =>
    cases k with
    | zero => exact ⟨rfl, rfl⟩
    | succ k =>
      have := ih (k := k) (by simpa using h)
      unfold prs at this ⊢
      rw [List.flatMap_cons]
      rw [show (k + 1) * 2 = k * 2 + 2 by omega, show k * 2 + 2 + 1 = (k * 2 + 1) + 2 by omega]
      exact this
theorem prs_take (ks : List (Nat × Nat)) (m : Nat) : (prs ks).take (m * 2) = prs (ks.take m) := by
  induction ks generalizing m with
  | nil => simp [prs]
  | cons p l ih =>
    cases m with
    | zero => simp [prs]
    | succ m =>
      have := ih m
      unfold prs at this ⊢
      rw [List.flatMap_cons, List.take_succ_cons, List.flatMap_cons, ← this, show (m + 1) * 2 = m * 2 + 2 by omega]
      rfl
/-! ### slices.Clone at [][2]uint64: 2 cells an element -/
end Go.Proofs.YtifofdciablljaaDoor
