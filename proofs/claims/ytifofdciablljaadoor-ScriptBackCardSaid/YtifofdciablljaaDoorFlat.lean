/-
  Rows of elements that take k cells each, as they read.
-/
import Derived.Test.YtifofdciablljaaDoorSlK
set_option linter.unusedSimpArgs false
set_option linter.unusedVariables false
namespace Go.Proofs.YtifofdciablljaaDoor
open Go.RowKit

theorem flat_at {α : Type} {f : α → List Value} {k : Nat} (hf : ∀ x, (f x).length = k) {l : List α} {j i : Nat} {x : α} (hj : l[j]? = some x) (hi : i < k) : (l.flatMap f)[j * k + i]? = (f x)[i]? := by
  induction l generalizing j with
  | nil => simp at hj
  | cons y l ih =>
    rw [List.flatMap_cons]
    cases j with
    | zero =>
      have e : y = x := by simpa using hj
      subst e
      rw [Nat.zero_mul, Nat.zero_add, List.getElem?_append_left (by rw [hf]; exact hi)]
    | succ j =>
      rw [List.getElem?_append_right (by rw [hf, Nat.succ_mul]; omega), hf, show (j + 1) * k + i - k = j * k + i by rw [Nat.succ_mul]; omega]
      exact ih (by simpa using hj)
theorem flat_len {α : Type} {f : α → List Value} {k : Nat} (hf : ∀ x, (f x).length = k) (l : List α) : (l.flatMap f).length = l.length * k := by
  induction l with
  | nil => simp
  | cons y l ih => rw [List.flatMap_cons, List.length_append, ih, hf, List.length_cons, Nat.succ_mul]; omega
theorem flat_take {α : Type} {f : α → List Value} {k : Nat} (hf : ∀ x, (f x).length = k) (l : List α) (m : Nat) : (l.flatMap f).take (m * k) = (l.take m).flatMap f := by
  induction l generalizing m with
  | nil => simp
  | cons y l ih =>
    cases m with
    | zero => simp
    | succ m =>
      rw [List.flatMap_cons, List.take_succ_cons, List.flatMap_cons, ← ih m]
      have e : (m + 1) * k = (f y).length + m * k := by rw [hf, Nat.succ_mul]; omega
      rw [e, List.take_append, List.take_of_length_le (by omega)]
      congr 2; omega
theorem flat_drop {α : Type} {f : α → List Value} {k : Nat} (hf : ∀ x, (f x).length = k) (l : List α) (m : Nat) : (l.flatMap f).drop (m * k) = (l.drop m).flatMap f := by
  induction l generalizing m with
  | nil => simp
  | cons y l ih =>
    cases m with
    | zero => simp
    | succ m =>
      rw [List.flatMap_cons, List.drop_succ_cons, ← ih m]
      have e : (m + 1) * k = (f y).length + m * k := by rw [hf, Nat.succ_mul]; omega
      rw [e, List.drop_append, List.drop_eq_nil_of_le (by omega), List.nil_append]
      congr 1; omega
theorem flat_one {α : Type} {f : α → List Value} (h : ∀ x, ∀ v ∈ f x, v.oneCell' = true) (l : List α) : ∀ v ∈ l.flatMap f, v.oneCell' = true := by
  intro v hv
  obtain ⟨x, _, hx⟩ := List.mem_flatMap.1 hv
  exact h x v hx
theorem slk_len {α : Type} {f : α → List Value} {k : Nat} (hf : ∀ x, (f x).length = k) (hk : 0 < k) {w : World} {sp : Option Addr} {n : Nat} {l : List α} (h : SlK w k sp n (l.flatMap f)) : n = l.length := by
  have h1 := h.1
  rw [flat_len hf] at h1
  exact (Nat.eq_of_mul_eq_mul_right hk h1).symm
theorem slk_some {w : World} {k : Nat} {sp : Option Addr} {n : Nat} {vals : List Value} (h : SlK w k sp n vals) (hn : 0 < n) : ∃ b off, sp = some ⟨b, off, none⟩ := by
  obtain ⟨b, off, e, _⟩ := h.some' hn; exact ⟨b, off, e⟩
/-- A cell of an element. -/
theorem slk_cell {α : Type} {f : α → List Value} {k : Nat} (hf : ∀ x, (f x).length = k) {w : World} {b off n : Nat} {l : List α} (h : SlK w k (some ⟨b, off, none⟩) n (l.flatMap f)) {j i : Nat} {x : α} {v : Value} (hj : l[j]? = some x) (hi : i < k) (hv : (f x)[i]? = some v) :
    w.cell? ⟨b, off + j * k + i, none⟩ = some v := by
  have := h.cell (j := j * k + i) (u := v) (by rw [flat_at hf hj hi]; exact hv)
  rwa [← Nat.add_assoc] at this
theorem slk_cell0 {α : Type} {f : α → List Value} {k : Nat} (hf : ∀ x, (f x).length = k) {w : World} {b off n : Nat} {l : List α} (h : SlK w k (some ⟨b, off, none⟩) n (l.flatMap f)) {j : Nat} {x : α} {v : Value} (hj : l[j]? = some x) (hk : 0 < k) (hv : (f x)[0]? = some v) :
    w.cell? ⟨b, off + j * k, none⟩ = some v := slk_cell hf h hj hk hv
end Go.Proofs.YtifofdciablljaaDoor
