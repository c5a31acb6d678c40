/-
  Layer 27 (order), plain: the first order that bears calls out.
-/
import Derived.Test.YtogeohjeabbmaaaDoorOrdP
set_option linter.unusedSimpArgs false
set_option linter.unusedVariables false
set_option maxRecDepth 100000
namespace Go.Proofs.YtogeohjeabbmaaaDoor
open Go.RowKit

/-- How many calls were not met yet. -/
def unmetK (l : List Mm) (met : Nat → Bool) : Nat := ((List.range l.length).filter fun i => !met i).length
def seekF (l : List Mm) : Nat → (Nat → Bool) → Ps → List Nat → Option (List Nat)
  | 0, met, ps, row => if wholeB l met then some row else none
  | f + 1, met, ps, row => if wholeB l met then some row else (List.range' 0 l.length).findSome? fun n => if mayB l met n && goesB (nthM l n).md ps then seekF l f (markB met n) (stepP (nthM l n).md ps) (row ++ [n]) else none
/-- What is sought behind a call that stands next. -/
def subF (l : List Mm) (f : Nat) (met : Nat → Bool) (ps : Ps) (row : List Nat) (n : Nat) : Option (List Nat) :=
  match f with
  | 0 => none
  | f + 1 => if mayB l met n && goesB (nthM l n).md ps then seekF l f (markB met n) (stepP (nthM l n).md ps) (row ++ [n]) else none
theorem findSome_none {α β : Type} (l : List α) : l.findSome? (fun _ => (none : Option β)) = none := by induction l <;> simp [*]
theorem seekF_eq (l : List Mm) (f : Nat) (met : Nat → Bool) (ps : Ps) (row : List Nat) : seekF l f met ps row = if wholeB l met then some row else (List.range' 0 l.length).findSome? (subF l f met ps row) := by
  cases f with
  | zero =>
    have : (List.range' 0 l.length).findSome? (subF l 0 met ps row) = none := findSome_none _
    rw [this]; rfl
  | succ f => rfl
theorem may_not {l : List Mm} {met : Nat → Bool} {k : Nat} (h : mayB l met k = true) : met k = false := by
  unfold mayB at h
  simp only [Bool.and_eq_true, Bool.not_eq_true'] at h
  exact h.1.2
theorem unmet_mark {l : List Mm} {met : Nat → Bool} {k : Nat} (hk : k < l.length) (h : met k = false) : unmetK l (markB met k) < unmetK l met := by
  unfold unmetK
  have hsub : ((List.range l.length).filter fun i => !markB met k i) = ((List.range l.length).filter fun i => !met i).filter fun i => decide (i ≠ k) := by
    rw [List.filter_filter]
    congr 1
    funext i
    unfold markB
    by_cases e : i = k <;> simp [e]
  rw [hsub]
  have hmem : k ∈ (List.range l.length).filter fun i => !met i := List.mem_filter.2 ⟨List.mem_range.2 hk, by simp [h]⟩
  generalize (List.range l.length).filter (fun i => !met i) = L at hmem
  have := (List.filter_sublist (p := fun i => decide (i ≠ k)) (l := L)).length_le
  rcases Nat.lt_or_eq_of_le this with h1 | h1
  · exact h1
  · have h2 := List.filter_sublist (p := fun i => decide (i ≠ k)) (l := L) |>.eq_of_length h1
    rw [← h2] at hmem
    have := (List.mem_filter.1 hmem).2
    simp at this
theorem unmet_pos {l : List Mm} {met : Nat → Bool} {k : Nat} (hk : k < l.length) (h : met k = false) : 0 < unmetK l met := by have := unmet_mark hk h; omega
/-- What is told is an order that bears the calls out. -/
theorem seek_sound {l : List Mm} : ∀ {f : Nat} {met : Nat → Bool} {ps : Ps} {row r : List Nat}, seekF l f met ps row = some r →
    ∃ os, r = row ++ os ∧ (∀ x ∈ os, x < l.length) ∧ metOk l.length (intsZ os) met = true ∧ ∃ met' ps', alongL l (intsZ os) met ps = some (met', ps') ∧ wholeB l met' = true := by
  intro f
  induction f with
  | zero =>
    intro met ps row r h
    unfold seekF at h
    split at h
    · injection h with h; exact ⟨[], by simp [h], by simp, rfl, met, ps, rfl, by assumption⟩
    · cases h
  | succ f ih =>
    intro met ps row r h
    unfold seekF at h
    split at h
    · injection h with h; exact ⟨[], by simp [h], by simp, rfl, met, ps, rfl, by assumption⟩
    · obtain ⟨n, hn, hs⟩ := List.exists_of_findSome?_eq_some h
      have hnl : n < l.length := by have := List.mem_range'_1.1 hn; omega
      split at hs
      · rename_i hmg
        obtain ⟨os, rfl, h1, h2, met', ps', h3, h4⟩ := ih hs
        have hm := hmg
        simp only [Bool.and_eq_true] at hm
        refine ⟨n :: os, by simp, fun x hx => ?_, ?_, met', ps', ?_, h4⟩
        · rcases List.mem_cons.1 hx with rfl | hx
          · exact hnl
          · exact h1 x hx
        · show metOk l.length ((n : Int) :: intsZ os) met = true
          unfold metOk
          rw [Int.toNat_natCast, may_not hm.1, h2]
          simp; omega
        · show alongL l ((n : Int) :: intsZ os) met ps = _
          unfold alongL
          rw [Int.toNat_natCast, hmg]
          exact h3
      · cases hs
/-- If an order bears the calls out, one is found. -/
theorem seek_complete {l : List Mm} : ∀ {os : List Nat} {f : Nat} {met : Nat → Bool} {ps : Ps} {row : List Nat} {met' : Nat → Bool} {ps' : Ps}, unmetK l met ≤ f → (∀ x ∈ os, x < l.length) → alongL l (intsZ os) met ps = some (met', ps') → wholeB l met' = true → (seekF l f met ps row).isSome = true
  | [], f, met, ps, row, met', ps', _, _, ha, hw => by
    have : (met, ps) = (met', ps') := by injection ha
    injection this with h1 h2
    rw [seekF_eq, h1, hw]
    rfl
  | n :: os, f, met, ps, row, met', ps', hf, hr, ha, hw => by
    have hnl := hr n (List.mem_cons_self ..)
    change alongL l ((n : Int) :: intsZ os) met ps = some (met', ps') at ha
    unfold alongL at ha
    rw [Int.toNat_natCast] at ha
    split at ha
    · rename_i hmg
      have hm := hmg
      simp only [Bool.and_eq_true] at hm
      have h1 := unmet_mark hnl (may_not hm.1)
      obtain ⟨f, rfl⟩ : ∃ f', f = f' + 1 := ⟨f - 1, by omega⟩
      have ih := seek_complete (os := os) (row := row ++ [n]) (show unmetK l (markB met n) ≤ f by omega) (fun x hx => hr x (List.mem_cons_of_mem _ hx)) ha hw
      unfold seekF
      split
      · rfl
      · rw [List.findSome?_isSome_iff]
        exact ⟨n, List.mem_range'_1.2 ⟨Nat.zero_le _, by omega⟩, by rw [hmg]; exact ih⟩
    · cases ha
end Go.Proofs.YtogeohjeabbmaaaDoor
