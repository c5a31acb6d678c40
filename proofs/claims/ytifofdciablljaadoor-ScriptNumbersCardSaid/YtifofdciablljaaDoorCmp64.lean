/-
  slices.Compact at rows of uint64: of each run of equal ones one is left.
-/
import Derived.Test.YtifofdciablljaaDoorSrtA
import Derived.Lib.SlicesCompact
import Derived.Lib.SliceRun
import Derived.Deep.LoopGhost
import Derived.Deep.RegionWith
set_option linter.unusedSimpArgs false
set_option linter.unusedVariables false
namespace Go.Proofs.YtifofdciablljaaDoor
open Go.RowKit Go.Sort

theorem Left.put {w W : World} {blk off : Nat} {d : Array Nat} (h : Left w blk off d W) (i x : Nat) (hi : i < d.size) : Left w blk off (d.setIfInBounds i x) ((W.setCell ⟨blk, off + i, none⟩ (.int .u64 (x : Int))).drew) := by
  obtain ⟨n, rfl⟩ := h
  refine ⟨n + 1, ?_⟩
  rw [← putRow_set e64 _ blk off d i x hi, ← ahead_drew]
  rfl

/-- Of a sorted row as many are left as there are different ones. -/
theorem compact_mem (xs : List Nat) (x : Nat) : x ∈ Lib.compactUpTo xs.toArray xs.length ↔ x ∈ xs := by
  unfold Lib.compactUpTo
  simp only [List.mem_map, List.mem_filter, List.mem_range]
  constructor
  · rintro ⟨j, ⟨hj, -⟩, rfl⟩
    simp [hj]
  · intro h
    obtain ⟨j, hj, rfl⟩ := List.mem_iff_getElem.1 h
    clear h
    induction j using Nat.strongRecOn with
    | _ j ih =>
      by_cases hk : Lib.keeps xs.toArray j = true
      · exact ⟨j, ⟨hj, hk⟩, by simp [hj]⟩
      · simp only [Lib.keeps, decide_eq_true_eq, not_or, Decidable.not_not] at hk
        obtain ⟨a, ⟨ha, hb⟩, hc⟩ := ih (j - 1) (by omega) (by omega)
        refine ⟨a, ⟨ha, hb⟩, hc.trans ?_⟩
        have := hk.2
        simp [hj, show j - 1 < xs.length by omega] at this
        exact this.symm

theorem compact_nodup (xs : List Nat) (hs : xs.Pairwise (· ≤ ·)) : (Lib.compactUpTo xs.toArray xs.length).Nodup := by
  unfold Lib.compactUpTo
  rw [List.nodup_iff_pairwise_ne]
  refine List.Pairwise.imp (R := (· < ·)) (fun h => Nat.ne_of_lt h) ?_
  rw [List.pairwise_map]
  refine List.Pairwise.imp_of_mem (R := (· < ·)) ?_ (List.Pairwise.filter _ List.pairwise_lt_range)
  intro i j hi hj hij
  simp only [List.mem_filter, List.mem_range, Lib.keeps, decide_eq_true_eq] at hi hj
  have h1 := List.pairwise_iff_getElem.1 hs
  have e : ∀ t, (h : t < xs.length) → xs.toArray[t]! = xs[t] := fun t h => by simp [h]
  obtain ⟨hi1, hi2⟩ := hi
  obtain ⟨hj1, hj2⟩ := hj
  rw [e i hi1, e j hj1]
  have hne := hj2.resolve_left (by omega)
  rw [e j hj1, e (j - 1) (by omega)] at hne
  have h2 : xs[i] ≤ xs[j - 1] := by
    by_cases hh : i = j - 1
    · subst hh; exact Nat.le_refl _
    · exact h1 i (j - 1) hi1 (by omega) (by omega)
  have h3 : xs[j - 1] ≤ xs[j] := h1 (j - 1) j (by omega) hj1 (by omega)
  omega
end Go.Proofs.YtifofdciablljaaDoor
