/-
  The map of layer 24, in plain Lean: rows of pairs by rising keys.
-/
import Derived.Test.YtogeohjeabbmaaaDoorY1
set_option linter.unusedSimpArgs false
set_option linter.unusedVariables false
namespace Go.Proofs.YtogeohjeabbmaaaDoor
open Go.RowKit

abbrev Ps := List (Nat × Nat)
/-- The keys rise. -/
def upB : Ps → Bool
  | [] => true
  | [_] => true
  | a :: b :: l => decide (a.1 < b.1) && upB (b :: l)
/-- Where a key stands, or would. -/
def posP (ps : Ps) (k : Nat) : Nat := (ps.takeWhile fun p => decide (p.1 < k)).length
def getS : Ps → Nat → Option Nat
  | [], _ => none
  | p :: l, k => if p.1 < k then getS l k else if p.1 = k then some p.2 else none
def insP : Ps → Nat → Nat → Ps
  | [], k, v => [(k, v)]
  | p :: l, k, v => if p.1 < k then p :: insP l k v else if p.1 = k then (k, v) :: l else (k, v) :: p :: l
def delP : Ps → Nat → Ps
  | [], _ => []
  | p :: l, k => if p.1 < k then p :: delP l k else if p.1 = k then l else p :: l
def hasP (ps : Ps) (k : Nat) : Bool := (getS ps k).isSome

theorem posP_le (ps : Ps) (k : Nat) : posP ps k ≤ ps.length := (List.takeWhile_sublist _).length_le
theorem posP_nil (k : Nat) : posP [] k = 0 := rfl
theorem posP_cons (p : Nat × Nat) (l : Ps) (k : Nat) : posP (p :: l) k = if p.1 < k then posP l k + 1 else 0 := by
  unfold posP
  rw [List.takeWhile_cons]
  split <;> simp_all
theorem nthP_cons_zero (p : Nat × Nat) (l : Ps) : nthP (p :: l) 0 = p := rfl
theorem nthP_cons_succ (p : Nat × Nat) (l : Ps) (k : Nat) : nthP (p :: l) (k + 1) = nthP l k := rfl
theorem posP_lt {ps : Ps} {k t : Nat} (h : t < posP ps k) : (nthP ps t).1 < k := by
  induction ps generalizing t with
  | nil => simp [posP_nil] at h
  | cons p l ih =>
    rw [posP_cons] at h
    split at h
    · cases t with
      | zero => assumption
      | succ t => exact ih (by omega)
    · omega
theorem posP_at {ps : Ps} {k : Nat} (h : posP ps k < ps.length) : k ≤ (nthP ps (posP ps k)).1 := by
  induction ps with
  | nil => simp at h
  | cons p l ih =>
    rw [posP_cons] at h ⊢
    split
    · rename_i hp
      rw [if_pos hp] at h
      exact ih (by simpa using h)
    · rw [nthP_cons_zero]; omega
theorem posP_eq {ps : Ps} {k i : Nat} (hi : i ≤ ps.length) (h1 : ∀ t, t < i → (nthP ps t).1 < k) (h2 : i < ps.length → k ≤ (nthP ps i).1) : posP ps k = i := by
  rcases Nat.lt_trichotomy (posP ps k) i with h | h | h
  · have := posP_at (ps := ps) (k := k) (by omega)
    have := h1 _ h
    omega
  · exact h
  · have := posP_lt h
    have hle := posP_le ps k
    have := h2 (by omega)
    omega
theorem getS_pos (ps : Ps) (k : Nat) : getS ps k = if posP ps k < ps.length ∧ (nthP ps (posP ps k)).1 = k then some (nthP ps (posP ps k)).2 else none := by
  induction ps with
  | nil => simp [getS]
  | cons p l ih =>
    rw [getS, posP_cons]
    by_cases hp : p.1 < k
    · rw [if_pos hp, if_pos hp, ih, nthP_cons_succ]
      simp
    · rw [if_neg hp, if_neg hp, nthP_cons_zero]
      simp
theorem hasP_pos (ps : Ps) (k : Nat) : hasP ps k = (decide (posP ps k < ps.length) && decide ((nthP ps (posP ps k)).1 = k)) := by
  unfold hasP
  rw [getS_pos]
  by_cases h : posP ps k < ps.length ∧ (nthP ps (posP ps k)).1 = k
  · rw [if_pos h]; simp [h.1, h.2]
  · rw [if_neg h]
    symm
    simp only [Option.isSome_none, Bool.and_eq_false_iff, decide_eq_false_iff_not]
    by_cases h1 : posP ps k < ps.length
    · exact .inr fun e => h ⟨h1, e⟩
    · exact .inl h1
theorem insP_pos (ps : Ps) (k v : Nat) : insP ps k v = if hasP ps k then ps.set (posP ps k) (k, v) else ps.take (posP ps k) ++ (k, v) :: ps.drop (posP ps k) := by
  induction ps with
  | nil => simp [insP, hasP, getS, posP_nil]
  | cons p l ih =>
    rw [insP, posP_cons]
    have hh : hasP (p :: l) k = if p.1 < k then hasP l k else decide (p.1 = k) := by
      unfold hasP; rw [getS]; split
      · rfl
      · split <;> simp_all
    rw [hh]
    by_cases hp : p.1 < k
    · simp only [if_pos hp]
      rw [ih]
      split <;> simp
    · simp only [if_neg hp]
      by_cases he : p.1 = k <;> simp [he]
theorem delP_pos (ps : Ps) (k : Nat) : delP ps k = if hasP ps k then ps.take (posP ps k) ++ ps.drop (posP ps k + 1) else ps := by
  induction ps with
  | nil => simp [delP]
  | cons p l ih =>
    rw [delP, posP_cons]
    have hh : hasP (p :: l) k = if p.1 < k then hasP l k else decide (p.1 = k) := by
      unfold hasP; rw [getS]; split
      · rfl
      · split <;> simp_all
    rw [hh]
    by_cases hp : p.1 < k
    · simp only [if_pos hp]
      rw [ih]
      split <;> simp
    · simp only [if_neg hp]
      by_cases he : p.1 = k <;> simp [he]
/-! ### rows that rise -/
theorem up_tail {p : Nat × Nat} {l : Ps} (h : upB (p :: l) = true) : upB l = true := by
  cases l with
  | nil => rfl
  | cons q l => rw [upB, Bool.and_eq_true] at h; exact h.2
theorem up_head {p : Nat × Nat} {l : Ps} (h : upB (p :: l) = true) : ∀ q ∈ l, p.1 < q.1 := by
  induction l generalizing p with
  | nil => intro q hq; cases hq
  | cons q l ih =>
    rw [upB, Bool.and_eq_true] at h
    have h1 : p.1 < q.1 := by simpa using h.1
    intro r hr
    rcases List.mem_cons.1 hr with e | hr
    · rw [e]; exact h1
    · have := ih h.2 r hr; omega
theorem up_cons {p : Nat × Nat} {l : Ps} (h1 : ∀ q ∈ l, p.1 < q.1) (h2 : upB l = true) : upB (p :: l) = true := by
  cases l with
  | nil => rfl
  | cons q l => rw [upB, Bool.and_eq_true]; exact ⟨by simpa using h1 q (List.mem_cons_self ..), h2⟩
theorem up_iff (ps : Ps) : upB ps = true ↔ ∀ i, i + 1 < ps.length → (nthP ps i).1 < (nthP ps (i + 1)).1 := by
  induction ps with
  | nil => simp [upB]
  | cons p l ih =>
    cases l with
    | nil => simp [upB]
    | cons q l =>
      rw [upB, Bool.and_eq_true, ih]
      constructor
      · rintro ⟨h1, h2⟩ i hi
        cases i with
        | zero => exact of_decide_eq_true h1
        | succ i => exact h2 i (by simpa using hi)
      · intro h
        exact ⟨decide_eq_true (h 0 (by simp)), fun i hi => h (i + 1) (by simpa using hi)⟩
theorem up_lt {ps : Ps} (h : upB ps = true) : ∀ {i j : Nat}, i < j → j < ps.length → (nthP ps i).1 < (nthP ps j).1 := by
  intro i j hij hj
  induction j with
  | zero => omega
  | succ j ih =>
    have := (up_iff ps).1 h j hj
    by_cases e : i = j
    · rw [e]; exact this
    · have := ih (by omega) (by omega); omega
theorem get_none {ps : Ps} {k : Nat} (h : ∀ p ∈ ps, k < p.1) : getS ps k = none := by
  cases ps with
  | nil => rfl
  | cons p l =>
    have := h p (List.mem_cons_self ..)
    rw [getS, if_neg (by omega), if_neg (by omega)]
theorem get_ins {ps : Ps} (h : upB ps = true) (k v q : Nat) : getS (insP ps k v) q = if q = k then some v else getS ps q := by
  induction ps with
  | nil =>
    simp only [insP, getS]
    by_cases e : q = k
    · subst e; simp
    · rw [if_neg e]
      split
      · rfl
      · rw [if_neg (by omega)]
  | cons p l ih =>
    have ht := up_tail h
    have hh := up_head h
    rw [insP]
    split
    · rename_i hp
      rw [getS, ih ht]
      rw [getS]
      by_cases e : q = k
      · subst e; simp [hp]
      · rw [if_neg e, if_neg e]
    · rename_i hp
      split
      · rename_i he
        rw [getS, getS]
        by_cases e : q = k
        · subst e; rw [if_neg (by simp), if_pos rfl, if_pos rfl]
        · by_cases hlt : k < q
          · rw [if_pos hlt, if_neg e, if_pos (by omega)]
          · rw [if_neg hlt, if_neg (by simp; omega), if_neg e, if_neg (by omega), if_neg (by omega)]
      · rename_i he
        rw [getS]
        by_cases e : q = k
        · subst e; rw [if_neg (by simp), if_pos rfl, if_pos rfl]
        · by_cases hlt : k < q
          · rw [if_pos hlt, if_neg e]
          · rw [if_neg hlt, if_neg (by simp; omega), if_neg e]
            rw [getS, if_neg (by omega), if_neg (by omega)]
theorem get_del {ps : Ps} (h : upB ps = true) (k q : Nat) : getS (delP ps k) q = if q = k then none else getS ps q := by
  induction ps with
  | nil => simp [delP, getS]
  | cons p l ih =>
    have ht := up_tail h
    have hh := up_head h
    rw [delP]
    split
    · rename_i hp
      rw [getS, ih ht, getS]
      by_cases e : q = k
      · subst e; simp [hp]
      · rw [if_neg e, if_neg e]
    · rename_i hp
      split
      · rename_i he
        rw [getS]
        by_cases e : q = k
        · rw [if_pos e]
          exact get_none fun r hr => by have := hh r hr; omega
        · rw [if_neg e]
          by_cases hlt : p.1 < q
          · rw [if_pos hlt]
          · rw [if_neg hlt, if_neg (by omega)]
            exact get_none fun r hr => by have := hh r hr; omega
      · rename_i he
        by_cases e : q = k
        · rw [if_pos e, getS, if_neg (by omega), if_neg (by omega)]
        · rw [if_neg e]
theorem mem_ins {ps : Ps} {k v : Nat} {q : Nat × Nat} (h : q ∈ insP ps k v) : q = (k, v) ∨ q ∈ ps := by
  induction ps with
  | nil => rw [insP] at h; simpa using h
  | cons p l ih =>
    rw [insP] at h
    split at h
    · rcases List.mem_cons.1 h with e | h
      · exact .inr (by rw [e]; exact List.mem_cons_self ..)
      · exact (ih h).imp id (List.mem_cons_of_mem _)
    · split at h
      · rcases List.mem_cons.1 h with e | h
        · exact .inl e
        · exact .inr (List.mem_cons_of_mem _ h)
      · rcases List.mem_cons.1 h with e | h
        · exact .inl e
        · exact .inr h
theorem mem_del {ps : Ps} {k : Nat} {q : Nat × Nat} (h : q ∈ delP ps k) : q ∈ ps := by
  induction ps with
  | nil => simp [delP] at h
  | cons p l ih =>
    rw [delP] at h
    split at h
    · rcases List.mem_cons.1 h with e | h
      · rw [e]; exact List.mem_cons_self ..
      · exact List.mem_cons_of_mem _ (ih h)
    · split at h
      · exact List.mem_cons_of_mem _ h
      · exact h
theorem up_ins {ps : Ps} (h : upB ps = true) (k v : Nat) : upB (insP ps k v) = true := by
  induction ps with
  | nil => rfl
  | cons p l ih =>
    have ht := up_tail h
    have hh := up_head h
    rw [insP]
    split
    · refine up_cons (fun q hq => ?_) (ih ht)
      rcases mem_ins hq with e | hq
      · rw [e]; assumption
      · exact hh q hq
    · split
      · rename_i he
        exact up_cons (fun q hq => by have := hh q hq; simp only; omega) ht
      · refine up_cons (fun q hq => ?_) h
        rcases List.mem_cons.1 hq with e | hq
        · rw [e]; simp only; omega
        · have := hh q hq; simp only; omega
theorem up_del {ps : Ps} (h : upB ps = true) (k : Nat) : upB (delP ps k) = true := by
  induction ps with
  | nil => rfl
  | cons p l ih =>
    have ht := up_tail h
    have hh := up_head h
    rw [delP]
    split
    · exact up_cons (fun q hq => hh q (mem_del hq)) (ih ht)
    · split
      · exact ht
      · exact h
theorem len_ins (ps : Ps) (k v : Nat) : (insP ps k v).length = ps.length + if hasP ps k then 0 else 1 := by
  have hle := posP_le ps k
  rw [insP_pos]
  split
  · simp
  · simp; omega
theorem len_del (ps : Ps) (k : Nat) : (delP ps k).length = ps.length - if hasP ps k then 1 else 0 := by
  have hp := hasP_pos ps k
  rw [delP_pos]
  split
  · rename_i h
    rw [h] at hp
    have : posP ps k < ps.length := by simp at hp; exact hp.1
    simp; omega
  · simp
/-- Rows that rise are the same, if all keys have the same. -/
theorem up_ext {a b : Ps} (ha : upB a = true) (hb : upB b = true) (h : ∀ q, getS a q = getS b q) : a = b := by
  induction a generalizing b with
  | nil =>
    cases b with
    | nil => rfl
    | cons p l => have := h p.1; rw [getS, getS, if_neg (by omega), if_pos rfl] at this; cases this
  | cons p l ih =>
    cases b with
    | nil => have := h p.1; rw [getS, getS, if_neg (by omega), if_pos rfl] at this; cases this
    | cons q m =>
      have h1 := h p.1
      have h2 := h q.1
      rw [getS, getS, if_neg (by omega), if_pos rfl] at h1
      rw [getS, getS, if_neg (show ¬ q.1 < q.1 by omega), if_pos rfl] at h2
      have hpq : p.1 = q.1 := by
        rcases Nat.lt_trichotomy p.1 q.1 with hlt | e | hlt
        · rw [if_neg (by omega), if_neg (by omega)] at h1; cases h1
        · exact e
        · rw [if_neg (by omega), if_neg (by omega)] at h2; cases h2
      rw [if_neg (by omega), if_pos hpq.symm] at h1
      have e : p = q := Prod.ext hpq (by simpa using h1)
      subst e
      refine congrArg (p :: ·) (ih (up_tail ha) (up_tail hb) fun r => ?_)
      by_cases hr : p.1 < r
      · have := h r; rwa [getS, getS, if_pos hr, if_pos hr] at this
      · rw [get_none fun s hs => by have := up_head ha s hs; omega, get_none fun s hs => by have := up_head hb s hs; omega]
/-- Its first pair of a key, wherever: the document's Get. -/
def findP (ps : Ps) (k : Nat) : Option Nat := (ps.find? fun p => decide (p.1 = k)).map (·.2)
theorem findP_up {ps : Ps} (h : upB ps = true) (k : Nat) : findP ps k = getS ps k := by
  unfold findP
  induction ps with
  | nil => rfl
  | cons p l ih =>
    rw [getS, List.find?_cons]
    by_cases e : p.1 = k
    · rw [if_neg (by omega), if_pos e]; simp [e]
    · have e' : decide (p.1 = k) = false := by simpa using e
      rw [e', if_neg e]
      simp only
      rw [ih (up_tail h)]
      split
      · rfl
      · exact get_none fun r hr => by have := up_head h r hr; omega
end Go.Proofs.YtogeohjeabbmaaaDoor
