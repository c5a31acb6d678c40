/-
  Control words: the plain laws.
-/
import Derived.Test.YtbblomlbnecpeaaCtrlI
import Derived.Test.YtbblomlbnecpeaaRef09B
set_option linter.unusedSimpArgs false
set_option linter.unusedVariables false
namespace Go.Proofs.Ytbblomlbnecpeaa
open Go.RowKit

theorem mask_andNot1 (f : Nat → Bool) {n : Nat} (hn : n < 8) : maskOf ((List.range 8).map f) &&& (255 - 2 ^ n) = maskOf ((List.range 8).map fun i => f i && !(i == n)) := by
  have e : 255 - 2 ^ n = maskOf ((List.range 8).map fun i => !(i == n)) := by
    revert n; decide
  rw [e, mask_and]
theorem okB_cases {b : Nat} (h : okB b = true) : b < 128 ∨ b = 128 ∨ b = 254 := by unfold okB at h; simp at h; omega
theorem right_at {x i : Nat} (h : rightW x = true) (hi : i < 8) : byteAt x i < 128 ∨ byteAt x i = 128 ∨ byteAt x i = 254 := okB_cases ((rightW_iff x).1 h i hi)
theorem bool_eq {a b : Bool} (h : a = true ↔ b = true) : a = b := Bool.eq_iff_iff.2 h
theorem sets_apart (x : Nat) : belowM x 128 &&& equalM x 128 = 0 ∧ equalM x 128 &&& equalM x 254 = 0 ∧ belowM x 128 &&& equalM x 254 = 0 := by
  refine ⟨?_, ?_, ?_⟩ <;>
  · rw [← mask_none]
    simp only [fullM_def, equalM_def, mask_and]
    refine mask_eq.2 fun i hi => ?_
    rw [Bool.eq_false_iff]
    simp
    omega
theorem set_full {x n h : Nat} (hn : n < 8) (hh : h ≤ 127) : belowM (setLane x n h) 128 = belowM x 128 ||| 2 ^ n := by
  rw [fullM_def, fullM_def, ← mask_one n hn, mask_or]
  refine mask_eq.2 fun i hi => ?_
  rw [byteAt_set x n h i (by omega) hi hn]
  by_cases e : i = n
  · simp [e]; omega
  · simp [e]
theorem set_empty {x n h : Nat} (hn : n < 8) (hh : h ≤ 127) : equalM (setLane x n h) 128 = equalM x 128 &&& (255 - 2 ^ n) := by
  rw [equalM_def, equalM_def, mask_andNot1 _ hn]
  refine mask_eq.2 fun i hi => ?_
  rw [byteAt_set x n h i (by omega) hi hn]
  by_cases e : i = n
  · simp [e]; omega
  · simp [e]
theorem set_match {x n h : Nat} (hn : n < 8) (hh : h ≤ 127) : equalM (setLane x n h) h = equalM x h ||| 2 ^ n := by
  rw [equalM_def, equalM_def, ← mask_one n hn, mask_or]
  refine mask_eq.2 fun i hi => ?_
  rw [byteAt_set x n h i (by omega) hi hn]
  by_cases e : i = n
  · simp [e]
  · simp [e]
theorem set_unmatch {x n h b : Nat} (hn : n < 8) (hh : h ≤ 127) (hf : fullAt x n = false) (hb : b = 128 ∨ b = 254) : equalM (setLane (setLane x n h) n b) h = equalM x h := by
  rw [equalM_def, equalM_def]
  refine mask_eq.2 fun i hi => ?_
  rw [byteAt_set _ n b i (by omega) hi hn, byteAt_set x n h i (by omega) hi hn]
  unfold fullAt at hf
  simp at hf
  by_cases e : i = n
  · subst e
    rw [if_pos rfl]
    have h1 : (b == h) = false := by simp; omega
    have h2 : (byteAt x i == h) = false := by simp; omega
    rw [h1, h2]
  · rw [if_neg e, if_neg e]
theorem set_fullAt {x n h : Nat} (hn : n < 8) (hh : h ≤ 127) : fullAt (setLane x n h) n = true := by
  unfold fullAt; rw [byteAt_set x n h n (by omega) hn hn, if_pos rfl]; simp; omega
theorem eraseB_or (x : Nat) : eraseB x = 128 ∨ eraseB x = 254 := by unfold eraseB; split <;> simp
/-- What is erased does not stop the row otherwise. -/
theorem erase_stops {x n : Nat} (hn : n < 8) (hf : fullAt x n = true) : stopsW (setLane x n (eraseB x)) = stopsW x := by
  have hf' : byteAt x n < 128 := by unfold fullAt at hf; simpa using hf
  refine bool_eq ?_
  rw [stopsW_iff, stopsW_iff]
  constructor
  · rintro ⟨i, hi, e⟩
    rw [byteAt_set x n _ i (by unfold eraseB; split <;> omega) hi hn] at e
    by_cases h : i = n
    · rw [if_pos h] at e
      unfold eraseB at e
      by_cases hs : stopsW x = true
      · exact (stopsW_iff x).1 hs
      · rw [if_neg hs] at e; omega
    · rw [if_neg h] at e; exact ⟨i, hi, e⟩
  · rintro ⟨i, hi, e⟩
    have : i ≠ n := fun h => by subst h; omega
    exact ⟨i, hi, by rw [byteAt_set x n _ i (by unfold eraseB; split <;> omega) hi hn, if_neg this]; exact e⟩
/-! ### Made ready, and filled -/
theorem hasM_bit (m i : Nat) : hasM m i = m.testBit i := by unfold hasM; rw [Nat.testBit_eq_decide_div_mod_eq, Bool.eq_iff_iff]; simp
theorem hasM_below (x i : Nat) (hi : i < 8) : hasM (belowM x 128) i = fullAt x i := by
  rw [hasM_bit, fullM_def, tb_range']; simp [hi, fullAt]
theorem hasM_free {x : Nat} (hr : rightW x = true) (i : Nat) (hi : i < 8) : hasM (freeM x) i = !fullAt x i := by
  rw [hasM_bit]
  unfold freeM
  rw [equalM_def, equalM_def, mask_or, tb_range']
  have := right_at hr hi
  unfold fullAt
  simp only [hi, decide_true, Bool.true_and]
  refine bool_eq ?_
  simp
  omega
theorem byteAt_readyW (x i : Nat) (hi : i < 8) : byteAt (blendW (fillW 128) (fillW 254) (belowM x 128)) i = if fullAt x i = true then 254 else 128 := by
  have h1 : ∀ j, j < 8 → byteAt (fillW 128) j = 128 := by decide +kernel
  have h2 : ∀ j, j < 8 → byteAt (fillW 254) j = 254 := by decide +kernel
  unfold blendW
  rw [byteAt_word (bytey_range _ fun j => by split <;> exact byteAt_lt _ _), List.getD_eq_getElem?_getD, List.getElem?_map, List.getElem?_range hi]
  simp only [Option.map_some, Option.getD_some, hasM_below x i hi, h1 i hi, h2 i hi]
theorem byteAt_readyK (x : Nat) : ∀ k, k ≤ 8 → ∀ i, i < 8 → byteAt (readyK x k) i = if i < k then (if fullAt x i = true then 254 else 128) else byteAt x i
  | 0, _, i, hi => by simp [readyK]
  | k + 1, hk, i, hi => by
    have ih := byteAt_readyK x k (by omega)
    have hf : fullAt (readyK x k) k = fullAt x k := by unfold fullAt; rw [ih k (by omega), if_neg (by omega)]
    unfold readyK
    rw [hf, byteAt_set _ k _ i (by split <;> decide) hi (by omega), ih i hi]
    by_cases e : i = k
    · subst e; simp
    · rw [if_neg e]
      by_cases h : i < k
      · have h2 : i < k + 1 := by omega
        simp [h, h2]
      · have h2 : ¬ i < k + 1 := by omega
        simp [h, h2]
theorem readyK_eq {x : Nat} (hx : x < 2 ^ 64) : readyK x 8 = blendW (fillW 128) (fillW 254) (belowM x 128) := by
  refine word_ext (readyK_lt x hx 8) ?_ fun i hi => ?_
  · unfold blendW
    have := word_lt (l := (List.range 8).map fun i => if hasM (belowM x 128) i = true then byteAt (fillW 254) i else byteAt (fillW 128) i) (bytey_range _ fun j => by split <;> exact byteAt_lt _ _)
    simpa using this
  · rw [byteAt_readyW x i hi, byteAt_readyK x 8 (Nat.le_refl _) i hi, if_pos hi]
theorem findIdx_congr' {p q : Nat → Bool} : ∀ {l : List Nat}, (∀ a ∈ l, p a = q a) → l.findIdx p = l.findIdx q
  | [], _ => rfl
  | a :: r, h => by
    rw [List.findIdx_cons, List.findIdx_cons, h a (List.mem_cons_self ..), findIdx_congr' fun b hb => h b (List.mem_cons_of_mem _ hb)]
theorem lanes_first : ∀ m : Fin 256, (0 < (lanesOf m.val).length ↔ (List.range 8).findIdx (hasM m.val) < 8) ∧ (0 < (lanesOf m.val).length → nthN (lanesOf m.val) 0 = (List.range 8).findIdx (hasM m.val)) := by decide +kernel
theorem free_first {x : Nat} (hr : rightW x = true) : (0 < (lanesOf (freeM x)).length ↔ firstOpen x < 8) ∧ (0 < (lanesOf (freeM x)).length → nthN (lanesOf (freeM x)) 0 = firstOpen x) := by
  have h := lanes_first ⟨freeM x, freeM_lt x⟩
  have e : (List.range 8).findIdx (hasM (freeM x)) = firstOpen x := findIdx_congr' fun i hi => hasM_free hr i (List.mem_range.1 hi)
  simp only [e] at h
  exact h
theorem fills_same {x : Nat} {hs : List Nat} (hr : rightW x = true) : ∀ k, k ≤ hs.length → fillsK x hs k = rfillsK x hs k ∧ ∀ y l, rfillsK x hs k = some (y, l) → rightW y = true
  | 0, _ => ⟨rfl, fun y l h => by cases h; exact hr⟩
  | k + 1, hk => by
    obtain ⟨h1, h2⟩ := fills_same (hs := hs) hr k (by omega)
    rw [fillsK_succ x hs (by omega), rfillsK_succ x hs (by omega), h1]
    cases hz : rfillsK x hs k with
    | none => exact ⟨rfl, fun y l h => by cases h⟩
    | some yl =>
      obtain ⟨y, l⟩ := yl
      have hy := h2 y l hz
      obtain ⟨f1, f2⟩ := free_first hy
      show (if _ ∧ _ then _ else _) = (if _ ∧ _ then _ else _) ∧ ∀ y' l', (if _ ∧ _ then _ else _) = some (y', l') → _
      by_cases hc : nthN hs k ≤ 127 ∧ firstOpen y < 8
      · have hp := f1.2 hc.2
        rw [if_pos ⟨hc.1, hp⟩, if_pos hc, f2 hp]
        refine ⟨rfl, fun y' l' h => ?_⟩
        cases h
        exact set_right hy (by unfold okB; simp; omega) (by omega) hc.2
      · rw [if_neg hc, if_neg (fun e => hc ⟨e.1, f1.1 e.2⟩)]
        exact ⟨rfl, fun y' l' h => by cases h⟩
theorem fillsT_same {x : Nat} {hs : List Nat} (hr : rightW x = true) : fillsT x hs = rfillsT x hs := by
  unfold fillsT rfillsT
  rw [if_pos hr, (fills_same hr hs.length (Nat.le_refl _)).1]
  cases rfillsK x hs hs.length <;> rfl
/-- A word made ready, some of whose lanes are filled. -/
structure Front (k y : Nat) (l : List Nat) : Prop where
  right : rightW y = true
  full : ∀ i, i < 8 → fullAt y i = decide (i < k)
  l_eq : l = List.range k
  le : k ≤ 8
theorem front_fills {x : Nat} {hs : List Nat} (h0 : Front 0 x []) : ∀ k, k ≤ hs.length → ∀ y l, rfillsK x hs k = some (y, l) → Front k y l
  | 0, _, y, l, h => by cases h; exact h0
  | k + 1, hk, y, l, h => by
    rw [rfillsK_succ x hs (by omega)] at h
    cases hz : rfillsK x hs k with
    | none => rw [hz] at h; cases h
    | some yl =>
      obtain ⟨y0, l0⟩ := yl
      have ih := front_fills h0 k (by omega) y0 l0 hz
      rw [hz] at h
      change (if _ ∧ _ then _ else _) = _ at h
      by_cases hc : nthN hs k ≤ 127 ∧ firstOpen y0 < 8
      · rw [if_pos hc] at h
        have hle := ih.le
        have hk8 : k < 8 := by
          refine Nat.lt_of_not_le fun h8 => ?_
          have : firstOpen y0 = 8 := firstOpen_none fun i hi => by rw [ih.full i hi]; simp; omega
          omega
        have hfo : firstOpen y0 = k := firstOpen_hit hk8 (fun i hi => by rw [ih.full i (by omega)]; simp [hi]) (by rw [ih.full k hk8]; simp)
        rw [hfo] at h
        cases h
        refine ⟨set_right ih.right (by unfold okB; simp; omega) (by omega) hk8, fun i hi => ?_, by rw [ih.l_eq, List.range_succ], by omega⟩
        by_cases e : i = k
        · subst e; rw [set_fullAt hk8 hc.1]; simp
        · have : fullAt (setLane y0 k (nthN hs k)) i = fullAt y0 i := by unfold fullAt; rw [byteAt_set _ _ _ _ (by omega) hi hk8, if_neg e]
          rw [this, ih.full i hi]
          by_cases h' : i < k
          · simp [h']; omega
          · simp [h']; omega
      · rw [if_neg hc] at h; cases h
theorem front_mask {k y : Nat} {l : List Nat} (h : Front k y l) : belowM y 128 = 2 ^ k - 1 := by
  have h1 : ∀ k, k ≤ 8 → maskOf ((List.range 8).map fun i => decide (i < k)) = 2 ^ k - 1 := by
    intro k hk
    have : ∀ k : Fin 9, maskOf ((List.range 8).map fun i => decide (i < k.val)) = 2 ^ k.val - 1 := by decide
    exact this ⟨k, by omega⟩
  rw [← h1 k h.le, fullM_def]
  exact mask_eq.2 fun i hi => h.full i hi
theorem ready_right {x : Nat} : rightW (blendW (fillW 128) (fillW 254) (belowM x 128)) = true := by
  rw [rightW_iff]
  intro i hi
  rw [byteAt_readyW x i hi]
  split <;> rfl
theorem ready_front (x : Nat) : Front 0 (blendW (fillW 128) (fillW 254) (belowM x 128)) [] :=
  ⟨ready_right, fun i hi => by unfold fullAt; rw [byteAt_readyW x i hi]; split <;> simp, rfl, by omega⟩
theorem ready_sets' {r x : Nat} (h : ∀ i, i < 8 → byteAt r i = if fullAt x i = true then 254 else 128) : belowM r 128 = 0 ∧ equalM r 254 = belowM x 128 ∧ equalM r 128 = 255 - belowM x 128 := by
  have hall : ∀ m : Fin 256, 255 - m.val = maskOf ((List.range 8).map fun i => !hasM m.val i) := by decide +kernel
  refine ⟨?_, ?_, ?_⟩
  · rw [← mask_none, fullM_def]
    refine mask_eq.2 fun i hi => ?_
    rw [h i hi]; split <;> rfl
  · rw [equalM_def, fullM_def]
    refine mask_eq.2 fun i hi => ?_
    rw [h i hi]
    unfold fullAt
    by_cases h : byteAt x i < 128 <;> simp [h]
  · have := hall ⟨belowM x 128, belowM_lt' _ _⟩
    rw [this, equalM_def]
    refine mask_eq.2 fun i hi => ?_
    rw [h i hi, hasM_below x i hi]
    cases fullAt x i <;> rfl
theorem ready_sets (x : Nat) : belowM (blendW (fillW 128) (fillW 254) (belowM x 128)) 128 = 0 ∧ equalM (blendW (fillW 128) (fillW 254) (belowM x 128)) 254 = belowM x 128 ∧ equalM (blendW (fillW 128) (fillW 254) (belowM x 128)) 128 = 255 - belowM x 128 :=
  ready_sets' fun i hi => byteAt_readyW x i hi
end Go.Proofs.Ytbblomlbnecpeaa
