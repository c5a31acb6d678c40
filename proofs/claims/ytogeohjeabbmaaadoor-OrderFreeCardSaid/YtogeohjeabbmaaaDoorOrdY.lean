/-
  Layer 27 (order), plain: orders that bear calls out, and what Search and ByAt tell, in short.
-/
import Derived.Test.YtogeohjeabbmaaaDoorZh
set_option linter.unusedSimpArgs false
set_option linter.unusedVariables false
set_option maxRecDepth 100000
namespace Go.Proofs.YtogeohjeabbmaaaDoor
open Go.RowKit

theorem behind_zero {l : List Mm} {os : List Int} : (behindL l os).1 = 0 ↔ checkB l = true ∧ metOk l.length os noneB = true ∧ ∃ met ps, alongL l os noneB [] = some (met, ps) ∧ wholeB l met = true := by
  unfold behindL
  constructor
  · intro h
    by_cases h1 : checkB l = false
    · rw [if_pos h1] at h; simp at h
    · rw [if_neg h1] at h
      by_cases h2 : metOk l.length os noneB = false
      · rw [if_pos h2] at h; simp at h
      · rw [if_neg h2] at h
        refine ⟨by simpa using h1, by simpa using h2, ?_⟩
        cases ha : alongL l os noneB [] with
        | none => rw [ha] at h; simp at h
        | some p =>
          obtain ⟨met, ps⟩ := p
          rw [ha] at h
          simp only at h
          refine ⟨met, ps, rfl, ?_⟩
          by_cases hw : wholeB l met = true
          · exact hw
          · rw [if_neg hw] at h; simp at h
  · rintro ⟨h1, h2, met, ps, ha, hw⟩
    rw [if_neg (by simp [h1]), if_neg (by simp [h2]), ha]
    simp only
    rw [if_pos hw]
theorem seek_bears {l : List Mm} {r : List Nat} (hc : checkB l = true) (h : seekL l = some r) : (behindL l (intsZ r)).1 = 0 := by
  obtain ⟨os, rfl, -, h2, met', ps', h3, h4⟩ := seek_sound h
  exact behind_zero.2 ⟨hc, h2, met', ps', h3, h4⟩
theorem bears_seek {l : List Mm} {os : List Int} (h : (behindL l os).1 = 0) : (seekL l).isSome = true := by
  obtain ⟨hc, h2, met, ps, ha, hw⟩ := behind_zero.1 h
  have hin := metOk_mem h2
  have e : os = intsZ (os.map Int.toNat) := by
    unfold intsZ
    rw [List.map_map]
    conv => lhs; rw [← List.map_id os]
    refine List.map_congr_left fun x hx => ?_
    have := (hin x hx).1
    simp; omega
  rw [e] at ha
  refine seek_complete (unmet_all l) (fun x hx => ?_) ha hw
  obtain ⟨z, hz, rfl⟩ := List.mem_map.1 hx
  have := hin z hz
  omega
theorem seek_len' {l : List Mm} : ∀ {f : Nat} {met : Nat → Bool} {ps : Ps} {row r : List Nat}, seekF l f met ps row = some r → r.length ≤ row.length + f := by
  intro f
  induction f with
  | zero =>
    intro met ps row r h
    unfold seekF at h
    split at h
    · injection h with h; rw [h]; omega
    · cases h
  | succ f ih =>
    intro met ps row r h
    unfold seekF at h
    split at h
    · injection h with h; rw [h]; omega
    · obtain ⟨n, hn, hs⟩ := List.exists_of_findSome?_eq_some h
      split at hs
      · have := ih hs
        rw [List.length_append] at this
        simp at this; omega
      · cases hs
theorem seek_len {l : List Mm} {r : List Nat} (h : seekL l = some r) : r.length ≤ l.length := by have := seek_len' h; simpa using this
theorem check_len {l : List Mm} (h : checkB l = true) : l.length ≤ 80 := by
  unfold checkB at h
  simp only [Bool.and_eq_true, decide_eq_true_eq] at h
  omega
/-- What ByAt tells, in short. -/
theorem byat_cases {w : World} {l : List Mm} {e : Ending} {w' : World} (h : ByAtP w l e w') : Below w.heap.size w w' ∧ ∃ (sp : Option Addr) (k cap : Nat) (er : Int) (os : List Int), e = .returned (.tuple #[.slice sp k cap, .int .i64 er]) ∧ Sl w' sp k (os.map (Value.int .i64)) ∧ k ≤ 80 ∧
    ((er = 0 ∧ (behindL l os).1 = 0) ∨ (er = 370 ∧ checkB l = false) ∨ (er = 371 ∧ checkB l = true)) := by
  obtain ⟨hb, ⟨hc, rfl⟩ | ⟨hc, C, hp, hs, ⟨h1, rfl⟩ | ⟨h1, sp, cap, rfl, hS, hle, hlo⟩⟩⟩ := h
  · exact ⟨hb, none, 0, 0, 370, [], rfl, Sl.nil _ _, by omega, .inr (.inl ⟨rfl, hc⟩)⟩
  · exact ⟨hb, none, 0, 0, 371, [], rfl, Sl.nil _ _, by omega, .inr (.inr ⟨rfl, hc⟩)⟩
  · refine ⟨hb, sp, C.length, cap, 0, intsZ C, rfl, by rw [← ints_Z]; exact hS, ?_, .inl ⟨rfl, h1⟩⟩
    have := hp.length_eq
    have := candK_len l l.length
    have := check_len hc
    omega
end Go.Proofs.YtogeohjeabbmaaaDoor
