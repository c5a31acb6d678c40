/-
  Lists, each thing once; logs of counts. No program in sight.
-/
import Derived.Test.YtifofdciablljaaDoorMaps
set_option linter.unusedSimpArgs false
set_option linter.unusedVariables false
namespace Go.Proofs.YtifofdciablljaaDoor

def onceStep (acc : List Nat) (k : Nat) : List Nat := if acc.contains k then acc else acc ++ [k]
def onceL (ks : List Nat) : List Nat := ks.foldl onceStep []
def logOf (ks : List Nat) : List (Nat × Int) := ks.foldl (fun m k => (k, mget m k + 1) :: m) []

theorem take_next {ks : List Nat} {j : Nat} (h : j < ks.length) : ks.take (j + 1) = ks.take j ++ [nthN ks j] := by
  rw [List.take_add_one, List.getElem?_eq_getElem h, nthN_eq h]; rfl
theorem mem_onceFold (x : Nat) : ∀ (ks acc : List Nat), x ∈ ks.foldl onceStep acc ↔ x ∈ acc ∨ x ∈ ks
  | [], acc => by simp
  | k :: r, acc => by
    rw [List.foldl_cons, mem_onceFold x r]
    unfold onceStep
    by_cases h : acc.contains k = true
    · rw [if_pos h]
      have hk : k ∈ acc := by simpa using h
      simp only [List.mem_cons]
      constructor
      · rintro (h | h); exact .inl h; exact .inr (.inr h)
      · rintro (h | rfl | h); exact .inl h; exact .inl hk; exact .inr h
    · rw [if_neg h]
      simp only [List.mem_append, List.mem_cons, List.mem_nil_iff, or_false]
      constructor
      · rintro ((h | rfl) | h); exact .inl h; exact .inr (.inl rfl); exact .inr (.inr h)
      · rintro (h | rfl | h); exact .inl (.inl h); exact .inl (.inr rfl); exact .inr h
theorem mem_onceL {x : Nat} {ks : List Nat} : x ∈ onceL ks ↔ x ∈ ks := by unfold onceL; rw [mem_onceFold]; simp
theorem onceL_snoc (ks : List Nat) (k : Nat) : onceL (ks ++ [k]) = if k ∈ ks then onceL ks else onceL ks ++ [k] := by
  unfold onceL
  rw [List.foldl_append]
  show onceStep (onceL ks) k = _
  unfold onceStep
  have : ((onceL ks).contains k = true) ↔ k ∈ ks := by rw [← mem_onceL]; simp
  by_cases h : k ∈ ks
  · rw [if_pos (this.2 h), if_pos h]; rfl
  · rw [if_neg (fun e => h (this.1 e)), if_neg h]; rfl
theorem onceFold_grows : ∀ (ks acc : List Nat), ∃ t, ks.foldl onceStep acc = acc ++ t
  | [], acc => ⟨[], by simp⟩
  | k :: r, acc => by
    obtain ⟨t, ht⟩ := onceFold_grows r (onceStep acc k)
    rw [List.foldl_cons, ht]
    unfold onceStep
    split
    · exact ⟨t, rfl⟩
    · exact ⟨[k] ++ t, by simp⟩
theorem onceL_take (ks : List Nat) (j : Nat) : ∃ t, onceL ks = onceL (ks.take j) ++ t := by
  have h : onceL ks = (ks.drop j).foldl onceStep (onceL (ks.take j)) := by
    unfold onceL; rw [← List.foldl_append, List.take_append_drop]
  rw [h]; exact onceFold_grows _ _
theorem once_at {ks : List Nat} {j : Nat} (h : j < ks.length) (hn : nthN ks j ∉ ks.take j) : (onceL ks)[(onceL (ks.take j)).length]? = some (nthN ks j) := by
  obtain ⟨t, ht⟩ := onceL_take ks (j + 1)
  rw [ht, take_next h, onceL_snoc, if_neg hn]; simp
theorem once_next_mem {ks : List Nat} {j : Nat} (h : j < ks.length) (hn : nthN ks j ∈ ks.take j) : onceL (ks.take (j + 1)) = onceL (ks.take j) := by
  rw [take_next h, onceL_snoc, if_pos hn]
theorem once_next_new {ks : List Nat} {j : Nat} (h : j < ks.length) (hn : nthN ks j ∉ ks.take j) : onceL (ks.take (j + 1)) = onceL (ks.take j) ++ [nthN ks j] := by
  rw [take_next h, onceL_snoc, if_neg hn]
theorem once_nodup (ks : List Nat) : (onceL ks).Nodup := by
  have : ∀ (ks acc : List Nat), acc.Nodup → (ks.foldl onceStep acc).Nodup := by
    intro ks
    induction ks with
    | nil => intro acc h; exact h
    | cons k r ih =>
      intro acc h
      refine ih _ ?_
      unfold onceStep
      split
      · exact h
      · rename_i hc
        rw [List.nodup_append]
        refine ⟨h, by simp, ?_⟩
        intro a ha b hb e
        have : b = k := by simpa using hb
        subst this; subst e
        exact hc (by simpa using ha)
  exact this ks [] (by simp)

theorem log_snoc (ks : List Nat) (k : Nat) : logOf (ks ++ [k]) = (k, mget (logOf ks) k + 1) :: logOf ks := by
  unfold logOf; rw [List.foldl_append]; rfl
theorem log_next {ks : List Nat} {j : Nat} (h : j < ks.length) : logOf (ks.take (j + 1)) = (nthN ks j, mget (logOf (ks.take j)) (nthN ks j) + 1) :: logOf (ks.take j) := by
  rw [take_next h, log_snoc]
theorem mget_log (x : Nat) : ∀ ks : List Nat, mget (logOf ks) x = (ks.count x : Int) := by
  intro ks
  generalize hn : ks.length = n
  induction n generalizing ks with
  | zero => rw [List.eq_nil_of_length_eq_zero hn]; rfl
  | succ n ih =>
    have hne : ks ≠ [] := by intro e; rw [e] at hn; simp at hn
    have e := List.dropLast_concat_getLast hne
    rw [← e, log_snoc]
    have hl : ks.dropLast.length = n := by simp; omega
    unfold mget
    have ih' := ih _ hl
    generalize ks.getLast hne = y
    generalize ks.dropLast = l at ih' 
    rw [List.count_append]
    by_cases h : y = x
    · subst h; rw [if_pos rfl, ih']; simp
    · rw [if_neg h, ih']; simp [h]
theorem length_log : ∀ ks : List Nat, (logOf ks).length = ks.length := by
  intro ks
  generalize hn : ks.length = n
  induction n generalizing ks with
  | zero => rw [List.eq_nil_of_length_eq_zero hn]; rfl
  | succ n ih =>
    have hne : ks ≠ [] := by intro e; rw [e] at hn; simp at hn
    rw [← List.dropLast_concat_getLast hne, log_snoc, List.length_cons, ih _ (by simp; omega)]
theorem mhas_log (x : Nat) : ∀ ks : List Nat, mhas (logOf ks) x = decide (x ∈ ks) := by
  intro ks
  generalize hn : ks.length = n
  induction n generalizing ks with
  | zero => rw [List.eq_nil_of_length_eq_zero hn]; rfl
  | succ n ih =>
    have hne : ks ≠ [] := by intro e; rw [e] at hn; simp at hn
    have hl : ks.dropLast.length = n := by simp; omega
    have e := List.dropLast_concat_getLast hne
    generalize ks.getLast hne = y at e
    rw [← e, log_snoc]
    unfold mhas
    rw [ih _ hl, Bool.eq_iff_iff]
    rw [Bool.or_eq_true, beq_iff_eq, decide_eq_true_eq, decide_eq_true_eq, List.mem_append, List.mem_singleton]
    constructor
    · rintro (h | h)
      · exact .inr h.symm
      · exact .inl h
    · rintro (h | h)
      · exact .inr h
      · exact .inl h.symm
theorem msize_log : ∀ ks : List Nat, msize (logOf ks) = (onceL ks).length := by
  intro ks
  generalize hn : ks.length = n
  induction n generalizing ks with
  | zero => rw [List.eq_nil_of_length_eq_zero hn]; rfl
  | succ n ih =>
    have hne : ks ≠ [] := by intro e; rw [e] at hn; simp at hn
    have hl : ks.dropLast.length = n := by simp; omega
    rw [← List.dropLast_concat_getLast hne, log_snoc, onceL_snoc]
    unfold msize
    rw [ih _ hl, mhas_log]
    by_cases h : ks.getLast hne ∈ ks.dropLast <;> simp [h]
theorem count_le_take (ks : List Nat) (x j : Nat) : (ks.take j).count x ≤ j :=
  Nat.le_trans List.count_le_length (by rw [List.length_take]; omega)
end Go.Proofs.YtifofdciablljaaDoor
