/-
  slices.Sort and slices.Compact at a row of uint64 that a call owns.
-/
import Derived.Test.YtifofdciablljaaDoorSrtK
import Derived.Test.YtifofdciablljaaDoorCmp64
import Derived.Test.YtifofdciablljaaDoorOnce
set_option linter.unusedSimpArgs false
set_option linter.unusedVariables false
namespace Go.Proofs.YtifofdciablljaaDoor
open Go.RowKit Go.Sort

theorem below_row64 {w : World} {base g q : Nat} {os : Array Obj} (d : Array Nat) (hb : base ≤ g) (hg : g < w.heap.size) : Below base w (grow (putRow e64 (Sort.ahead w q) g 0 d) os) := by
  refine ⟨rfl, rfl, rfl, by simp, fun k hk => ?_⟩
  have hkw : k < w.heap.size := by omega
  rw [heap_grow_old _ _ (by simpa using hkw)]
  have : g ≠ k := by omega
  simp [putRow, mapBlock, Sort.ahead, Array.getElem?_modify, this]
theorem holds_row64 {w : World} {g : Nat} {cur : Array Value} {e : TypeId} {ks : List Nat} (hb : w.heap[g]? = some (.cells cur e (0, 0))) (ht : cur.toList.take ks.length = u64s ks) : Holds e64 w g 0 ks.toArray := by
  intro j hj
  have hj' : j < ks.length := by simpa using hj
  have h1 : (cur.toList.take ks.length)[j]? = (u64s ks)[j]? := by rw [ht]
  rw [List.getElem?_take_of_lt hj', Array.getElem?_toList] at h1
  constructor
  · simp only [World.cell?, hb, Nat.zero_add, Option.isSome_none, Bool.false_eq_true, if_false, h1]
    simp [u64s, hj', e64]
  · simp [World.frozen?, hb]
theorem heap_row64 {w : World} {g q : Nat} {os : Array Obj} {cur : Array Value} {e : TypeId} {fr : Nat × Nat} (d : Array Nat) (hb : w.heap[g]? = some (.cells cur e fr)) :
    (grow (putRow e64 (Sort.ahead w q) g 0 d) os).heap[g]? = some (.cells (putCells e64 0 d cur) e fr) := by
  rw [heap_grow_old _ _ (by simpa using lt_of_heap hb)]
  simp [putRow, mapBlock, Sort.ahead, Array.getElem?_modify, hb, onCells]
theorem take_row64 (cur : Array Value) (ts : List Nat) (h : ts.length ≤ cur.size) : (putCells e64 0 ts.toArray cur).toList.take ts.length = u64s ts := by
  apply List.ext_getElem?
  intro j
  by_cases hj : j < ts.length
  · rw [List.getElem?_take_of_lt hj, Array.getElem?_toList]
    simp [putCells, hj, show j < cur.size by omega, u64s, e64]
  · rw [List.getElem?_take_eq_none (by omega), List.getElem?_eq_none (by simp [u64s]; omega)]

theorem sorted64_length (ks : List Nat) : (sorted64 ks).length = ks.length := List.length_mergeSort _
theorem sorted64_mem {ks : List Nat} {x : Nat} : x ∈ sorted64 ks ↔ x ∈ ks := List.mem_mergeSort
theorem sorted64_le (ks : List Nat) : (sorted64 ks).Pairwise (· ≤ ·) := by
  have := List.pairwise_mergeSort (le := fun x y : Nat => decide (x ≤ y)) (fun a b c h1 h2 => by simp only [decide_eq_true_eq] at *; omega) (fun a b => by simp only [Bool.or_eq_true, decide_eq_true_eq]; omega) ks
  simpa [sorted64] using this

/-- A row of the call's own, sorted. -/
theorem sort_own64 (base n cap : Nat) (sp : Option Addr) (ks : List Nat) (w : World) (h : w.ownsRow base 22 1 (.slice sp n cap) n (u64s ks)) (hn : n < 4611686018427387904) :
    Calls Tryd.prog 43 #[.slice sp n cap] w fun e w' =>
      e = .returned (.tuple #[]) ∧ Below base w w' ∧ w'.ownsRow base 22 1 (.slice sp n cap) n (u64s (sorted64 ks)) := by
  have hl : ks.length = n := by have := h.1; rw [u64s_length] at this; omega
  rcases h.2 with ⟨hv, h0⟩ | ⟨g, cap', cur, hv, hg, hh, hle, hcap, hsz, ht⟩
  · cases hv
    obtain rfl : ks = [] := List.eq_nil_of_length_eq_zero hl
    refine (sortNil64 0 w).mono ?_
    rintro e w' ⟨rfl, rfl⟩
    exact ⟨rfl, Below.refl _ _, by rw [show sorted64 [] = [] from by simp [sorted64]]; exact h⟩
  · cases hv
    subst hl
    rw [Nat.mul_one] at ht
    have hs := sort64 g 0 cap ks.toArray w (holds_row64 hh ht) (lt_of_heap hh) (by simpa using hn)
    rw [sort_sorted64] at hs
    simp only [List.size_toArray] at hs
    refine hs.mono ?_
    rintro e w' ⟨rfl, q, os, rfl⟩
    refine ⟨rfl, below_row64 _ hg (lt_of_heap hh), by simp [u64s, sorted64_length], .inr ⟨g, cap, _, rfl, hg, heap_row64 _ hh, hle, hcap, by simp [putCells, hsz], ?_⟩⟩
    rw [Nat.mul_one]
    have := take_row64 cur (sorted64 ks) (by rw [sorted64_length]; omega)
    rwa [sorted64_length] at this

end Go.Proofs.YtifofdciablljaaDoor
