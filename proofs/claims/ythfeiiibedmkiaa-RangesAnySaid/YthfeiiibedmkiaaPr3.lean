/-
  Several texts of mine in one: RanLaw RanLawB OpenRan RanAll.
-/
import Derived.Test.YthfeiiibedmkiaaPr2
import Derived.Test.YthfeiiibedmkiaaPr0
import Derived.Test.YthfeiiibedmkiaaPr1
/-
  Lines of changes: the program's answers are the document's, in plain Lean.
-/
set_option linter.unusedSimpArgs false
set_option linter.unusedVariables false
set_option maxRecDepth 100000
namespace Go.Proofs.Ythfeiiibedmkiaa
open Go.RowKit

/-! ### values -/
theorem get_step {l : List Ch} {k : Nat} (h : k < l.length) (q : Nat) : getS (mapL l (k + 1)) q = if q = (nthC l k).key then (if (nthC l k).has = true then some (nthC l k).val else none) else getS (mapL l k) q := by
  rw [mapL_succ h, get_behP (up_mapL l k)]
theorem ok_new {l : List Ch} (hr : rightL l = true) {k : Nat} (h : k < l.length) (hc : (nthC l k).has = true) : getS (mapL l k) (nthC l k).key ≠ some (nthC l k).val := by
  have h1 := (right_step hr h).1
  unfold okC at h1
  rw [if_pos hc] at h1
  simpa using h1
def keyV (key : Nat) (c : Ch) : Bool := (c.key == key) && c.has
theorem valsK_eq {l : List Ch} (hr : rightL l = true) (k0 key : Nat) : ∀ k, k0 + k ≤ l.length →
    (valsK l k0 key (k + 1)).1 = headV (getS (mapL l k0) key) ++ (((l.drop k0).take k).filter (keyV key)).map (·.val) ∧
    (valsK l k0 key (k + 1)).2 = (getS (mapL l (k0 + k)) key).isSome ∧
    (∀ v, getS (mapL l (k0 + k)) key = some v → (valsK l k0 key (k + 1)).1.length ≠ 0 ∧ lastN (valsK l k0 key (k + 1)).1 = v)
  | 0, _ => by
    have e1 : valsK l k0 key 1 = stepV ([], false) (getS (mapL l (k0 + 0)) key) := rfl
    rw [e1, Nat.add_zero]
    unfold stepV headV
    cases hg : getS (mapL l k0) key with
    | none => simp
    | some v => simp [lastN]
  | k + 1, hk => by
    obtain ⟨i1, i2, i3⟩ := valsK_eq hr k0 key k (by omega)
    have hkl : k0 + k < l.length := by omega
    have e1 : valsK l k0 key (k + 1 + 1) = stepV (valsK l k0 key (k + 1)) (getS (mapL l (k0 + (k + 1))) key) := rfl
    rw [e1]
    have e2 := get_step hkl key
    have hd : k < (l.drop k0).length := by rw [List.length_drop]; omega
    have e3 : ((l.drop k0).take (k + 1)).filter (keyV key) = ((l.drop k0).take k).filter (keyV key) ++ if keyV key (nthC l (k0 + k)) = true then [nthC l (k0 + k)] else [] := by
      rw [List.take_succ_eq_append_getElem hd, List.filter_append, List.getElem_drop, nthC_eq hkl]
      congr 1
      cases hq : keyV key (nthC l (k0 + k)) <;> simp [hq]
    have hnew := ok_new hr hkl
    rw [e3, List.map_append, ← List.append_assoc, ← i1]
    rw [show k0 + (k + 1) = k0 + k + 1 by omega, e2]
    generalize nthC l (k0 + k) = c at *
    unfold keyV stepV
    by_cases hq : key = c.key
    · subst hq
      rw [if_pos rfl]
      by_cases hh : c.has = true
      · rw [if_pos hh]
        have hne := hnew hh
        have hcond : (!(valsK l k0 c.key (k + 1)).2 || (decide ((valsK l k0 c.key (k + 1)).1.length = 0) || decide (lastN (valsK l k0 c.key (k + 1)).1 ≠ c.val))) = true := by
          rw [i2]
          cases hg : getS (mapL l (k0 + k)) c.key with
          | none => rfl
          | some v =>
            have := i3 v hg
            rw [hg] at hne
            have hv : v ≠ c.val := fun e => hne (by rw [e])
            simp [this.2, hv]
        simp only [Option.isSome_some, Option.getD_some, Bool.true_and, hcond, if_true, beq_self_eq_true, hh, List.map_cons, List.map_nil, true_and]
        intro v hv
        cases hv
        constructor
        · simp
        · unfold lastN; simp
      · rw [if_neg hh]
        simp [hh]
    · rw [if_neg hq]
      have hq' : (c.key == key) = false := by simp; exact fun e => hq e.symm
      have hcond : ((getS (mapL l (k0 + k)) key).isSome && (!(valsK l k0 key (k + 1)).2 || (decide ((valsK l k0 key (k + 1)).1.length = 0) || decide (lastN (valsK l k0 key (k + 1)).1 ≠ (getS (mapL l (k0 + k)) key).getD 0)))) = false := by
        rw [i2]
        cases hg : getS (mapL l (k0 + k)) key with
        | none => rfl
        | some v =>
          have := i3 v hg
          simp [this.1, this.2]
      simp only [hcond, hq', Bool.false_and, Bool.false_eq_true, if_false, List.map_nil, List.append_nil, true_and]
      exact i3
theorem fail_parts {l : List Ch} {f t : Int} (h : failE l f t = 0) : rightL l = true ∧ 0 ≤ f ∧ f ≤ t := by
  unfold failE at h
  by_cases hr : rightL l = true
  · rw [if_pos hr] at h
    by_cases hs : spanB f t = true
    · unfold spanB at hs
      simp at hs
      exact ⟨hr, hs.1, hs.2⟩
    · rw [if_neg hs] at h; cases h
  · rw [if_neg hr] at h; cases h
theorem fail_yes {l : List Ch} {f t : Int} (hr : rightL l = true) (h0 : 0 ≤ f) (h1 : f ≤ t) : failE l f t = 0 := by
  unfold failE spanB
  rw [if_pos hr, if_pos (by simp [h0, h1])]
theorem cond_filter {l : List Ch} (hr : rightL l = true) (key : Nat) {f t : Int} (hft : f ≤ t) : l.filter (condV key f t) = ((l.drop (cntL l f)).take (cntL l t - cntL l f)).filter (keyV key) := by
  have hm := cntL_mono l hft
  have hle := cntL_le l t
  have hmem : ∀ {c : Ch} {L : List Ch} {a : Nat}, c ∈ L → L = l.drop a → ∃ j, a ≤ j ∧ j < l.length ∧ c = nthC l j ∧ ∃ i, L[i]? = some c ∧ j = a + i := by
    intro c L a hc hL
    obtain ⟨i, hi, rfl⟩ := List.mem_iff_getElem.1 hc
    subst hL
    have hi2 : a + i < l.length := by rw [List.length_drop] at hi; omega
    exact ⟨a + i, by omega, hi2, by rw [List.getElem_drop, nthC_eq hi2], i, List.getElem?_eq_getElem hi, rfl⟩
  have h1 : (l.take (cntL l f)).filter (condV key f t) = [] := by
    rw [List.filter_eq_nil_iff]
    intro c hc
    obtain ⟨j, hj, rfl⟩ := List.mem_iff_getElem.1 hc
    rw [List.length_take] at hj
    have hj2 : j < l.length := by omega
    rw [List.getElem_take, nthC_eq hj2]
    have := cntL_in (l := l) (t := f) (j := j) (by omega)
    unfold condV
    simp; omega
  have h2 : (l.drop (cntL l t)).filter (condV key f t) = [] := by
    rw [List.filter_eq_nil_iff]
    intro c hc
    obtain ⟨j, h3, h4, rfl, _⟩ := hmem hc rfl
    have := (cntL_iff hr (t := t) h4)
    unfold condV
    simp; omega
  have h5 : ((l.drop (cntL l f)).take (cntL l t - cntL l f)).filter (condV key f t) = ((l.drop (cntL l f)).take (cntL l t - cntL l f)).filter (keyV key) := by
    refine List.filter_congr fun c hc => ?_
    obtain ⟨i, hi, rfl⟩ := List.mem_iff_getElem.1 hc
    rw [List.length_take, List.length_drop] at hi
    have hi2 : cntL l f + i < l.length := by omega
    rw [List.getElem_take, List.getElem_drop, nthC_eq hi2]
    have a1 := (cntL_iff hr (t := t) hi2).1 (by omega)
    have a2 := (cntL_iff hr (t := f) hi2)
    have a3 : f < (nthC l (cntL l f + i)).stp := by omega
    unfold condV keyV
    rw [decide_eq_true a3, decide_eq_true a1, Bool.true_and, Bool.true_and]
  have h6 : l.drop (cntL l f) = (l.drop (cntL l f)).take (cntL l t - cntL l f) ++ l.drop (cntL l t) := by
    have := (List.take_append_drop (cntL l t - cntL l f) (l.drop (cntL l f))).symm
    rwa [List.drop_drop, show cntL l f + (cntL l t - cntL l f) = cntL l t by omega] at this
  have h7 : l.filter (condV key f t) = (l.take (cntL l f) ++ ((l.drop (cntL l f)).take (cntL l t - cntL l f) ++ l.drop (cntL l t))).filter (condV key f t) := by
    rw [← h6, List.take_append_drop]
  rw [h7, List.filter_append, List.filter_append, h1, h2, h5]
  simp
theorem vals_eq {l : List Ch} (key : Nat) {f t : Int} (hf : failE l f t = 0) : valsL l key f t = valsD l key f t := by
  obtain ⟨hr, h0, hft⟩ := fail_parts hf
  have hm := cntL_mono l hft
  have hle := cntL_le l t
  unfold valsL valsD numT
  rw [if_pos hf, (valsK_eq hr (cntL l f) key (cntL l t - cntL l f) (by omega)).1, cond_filter hr key hft]

/-! ### keys that must be told -/
theorem leftK_eq (l : List Ch) (k0 : Nat) : ∀ k, leftK l k0 (k + 1) = (mapL l k0).filter fun p => allK l k0 p.1 (k + 1)
  | 0 => by
    have e : leftK l k0 1 = (mapL l k0).filter fun p => hasP (mapL l (k0 + 0)) p.1 := rfl
    rw [e]
    refine List.filter_congr fun p _ => ?_
    rw [allK_succ]
    show _ = (true && _)
    rw [Bool.true_and]
  | k + 1 => by
    have e : leftK l k0 (k + 1 + 1) = (leftK l k0 (k + 1)).filter fun p => hasP (mapL l (k0 + (k + 1))) p.1 := rfl
    rw [e, leftK_eq l k0 k, List.filter_filter]
    refine List.filter_congr fun p _ => ?_
    rw [allK_succ l k0 p.1 (k + 1), Bool.and_comm]
theorem must_eq {l : List Ch} {f t : Int} (hf : failE l f t = 0) : mustL l f t = mustD l f t := by
  unfold mustL mustD numT
  rw [if_pos hf, leftK_eq]
theorem miss_eq (must : List Nat) (told : Ps) : missB must told = missD must (told.map (·.1)) := by
  unfold missB missD
  congr 1
  funext k
  congr 1
  rw [Bool.eq_iff_iff]
  simp only [List.any_eq_true, beq_iff_eq, List.contains_eq_mem, List.mem_map, decide_eq_true_eq]
theorem range_eq {l : List Ch} {f t : Int} (told : Ps) (hf : failE l f t = 0) : rangeE l f t told = rangeD l f t told := by
  unfold rangeE rangeD
  rw [if_neg (by rw [hf]; decide), must_eq hf, miss_eq]
  have : neverB l f t = neverD l f t := by
    funext p; unfold neverB neverD; rw [vals_eq p.1 hf]
  rw [this]

/-! ### steps -/
def endR (key : Nat) (l : List Ch) : Int := match l.find? fun c => c.key == key with
  | some d => d.stp - 1
  | none => -1
def stepsR (key val : Nat) : List Ch → List (Int × Int)
  | [] => []
  | c :: l => (if condT key val c = true then [(c.stp, endR key l)] else []) ++ stepsR key val l
theorem fold_stay {key : Nat} : ∀ {L : List Ch} {e : Int}, 0 ≤ e → L.foldl (stepE key) e = e
  | [], _, _ => rfl
  | c :: L, e, h => by
    rw [List.foldl_cons]
    have : stepE key e c = e := by unfold stepE; rw [if_neg (by simp; omega)]
    rw [this]; exact fold_stay h
theorem fold_end {key : Nat} : ∀ {L : List Ch}, (∀ c ∈ L, 1 ≤ c.stp) → L.foldl (stepE key) (-1) = endR key L
  | [], _ => rfl
  | c :: L, h => by
    rw [List.foldl_cons]
    have hc := h c (List.mem_cons_self ..)
    by_cases hk : (c.key == key) = true
    · have e1 : stepE key (-1) c = c.stp - 1 := by unfold stepE; rw [if_pos (by simp [hk])]
      have e2 : endR key (c :: L) = c.stp - 1 := by unfold endR; rw [List.find?_cons, hk]
      rw [e1, e2, fold_stay (by omega)]
    · have hk' : (c.key == key) = false := by simpa using hk
      have e1 : stepE key (-1) c = -1 := by unfold stepE; rw [hk']; rfl
      have e2 : endR key (c :: L) = endR key L := by unfold endR; rw [List.find?_cons, hk']
      rw [e1, e2]; exact fold_end fun d hd => h d (List.mem_cons_of_mem _ hd)
theorem right_mem {l : List Ch} (hr : rightL l = true) : ∀ c ∈ l, 1 ≤ c.stp := by
  intro c hc
  obtain ⟨j, hj, rfl⟩ := List.mem_iff_getElem.1 hc
  rw [nthC_eq hj]
  have := right_pos hr hj; omega
theorem stepsD_eq {l : List Ch} (hr : rightL l = true) (key val : Nat) : ∀ k, k ≤ l.length → stepsD l key val k ++ stepsR key val (l.drop k) = stepsR key val l
  | 0, _ => by simp [stepsD]
  | k + 1, hk => by
    have ih := stepsD_eq hr key val k (by omega)
    have hkl : k < l.length := by omega
    rw [List.drop_eq_getElem_cons hkl, nthC_eq hkl, stepsR] at ih
    have e : endK l key k (l.length - (k + 1)) = endR key (l.drop (k + 1)) := by
      unfold endK
      rw [List.take_of_length_le (by rw [List.length_drop]; omega)]
      exact fold_end fun c hc => right_mem hr c (List.mem_of_mem_drop hc)
    rw [stepsD, e, List.append_assoc]
    exact ih
theorem stepsD_all {l : List Ch} (hr : rightL l = true) (key val : Nat) : stepsD l key val l.length = stepsR key val l := by
  have := stepsD_eq hr key val l.length (Nat.le_refl _)
  rw [List.drop_length] at this
  simpa [stepsR] using this
theorem endR_filter (key : Nat) (l : List Ch) : endR key (l.filter fun c => c.key == key) = endR key l := by
  unfold endR
  rw [List.find?_filter]
  congr 1
  congr 1
  funext c
  generalize (c.key == key) = b
  cases b <;> rfl
theorem stepsR_filter (key val : Nat) : ∀ l : List Ch, stepsR key val (l.filter fun c => c.key == key) = stepsR key val l
  | [] => rfl
  | c :: l => by
    rw [List.filter_cons]
    by_cases hk : (c.key == key) = true
    · rw [if_pos hk, stepsR, stepsR, endR_filter, stepsR_filter key val l]
    · rw [if_neg hk, stepsR, stepsR_filter key val l]
      have hk' : (c.key == key) = false := by simpa using hk
      rw [if_neg (by unfold condT; rw [hk']; simp)]
      rfl
theorem setTo_snoc (out : List (Int × Int)) (p : Int × Int) (x : Int) : setTo (out ++ [p]) x = out ++ [(p.1, x)] := by
  unfold setTo
  simp [List.getD_eq_getElem?_getD]
theorem stepT_fold (key val : Nat) : ∀ (L : List Ch), (∀ c ∈ L, (c.key == key) = true) → ∀ (out : List (Int × Int)),
    (L.foldl (stepT val) (out, false)).1 = out ++ stepsR key val L ∧ ∀ x, (L.foldl (stepT val) (out ++ [(x, -1)], true)).1 = out ++ (x, endR key L) :: stepsR key val L
  | [], _, out => by
    constructor
    · simp [stepsR]
    · intro x; simp [stepsR, endR]
  | c :: L, h, out => by
    have hc := h c (List.mem_cons_self ..)
    have ih := stepT_fold key val L fun d hd => h d (List.mem_cons_of_mem _ hd)
    have e2 : endR key (c :: L) = c.stp - 1 := by unfold endR; rw [List.find?_cons, hc]
    have e3 : condT key val c = (c.has && c.val == val) := by unfold condT; rw [hc]; simp
    by_cases hb : (c.has && c.val == val) = true
    · constructor
      · rw [List.foldl_cons]
        have e1 : stepT val (out, false) c = (out ++ [(c.stp, -1)], true) := by unfold stepT; simp only [hb]; simp
        rw [e1, (ih out).2, stepsR, e3, if_pos hb]; simp
      · intro x
        rw [List.foldl_cons]
        have e1 : stepT val (out ++ [(x, -1)], true) c = ((out ++ [(x, c.stp - 1)]) ++ [(c.stp, -1)], true) := by unfold stepT; simp only [hb, setTo_snoc]; simp
        rw [e1, (ih _).2, stepsR, e3, if_pos hb, e2]; simp
    · have hb' : (c.has && c.val == val) = false := by simpa using hb
      constructor
      · rw [List.foldl_cons]
        have e1 : stepT val (out, false) c = (out, false) := by unfold stepT; simp only [hb']; simp
        rw [e1, (ih out).1, stepsR, e3, if_neg hb]; simp
      · intro x
        rw [List.foldl_cons]
        have e1 : stepT val (out ++ [(x, -1)], true) c = (out ++ [(x, c.stp - 1)], false) := by unfold stepT; simp only [hb', setTo_snoc]; simp
        rw [e1, (ih _).1, stepsR, e3, if_neg hb, e2]; simp
theorem stepsL_eq {l : List Ch} (hr : rightL l = true) (key val : Nat) : stepsL l key val = stepsR key val l := by
  unfold stepsL stepsK
  rw [if_pos hr, List.take_length, ← stepsR_filter key val l]
  have := (stepT_fold key val (l.filter fun c => c.key == key) (fun c hc => (List.mem_filter.1 hc).2) []).1
  rw [this]; rfl
theorem steps_eq {l : List Ch} (hr : rightL l = true) (key val : Nat) : stepsL l key val = stepsD l key val l.length := by rw [stepsL_eq hr, stepsD_all hr]
end Go.Proofs.Ythfeiiibedmkiaa

/-
  Lines of changes: longer times, the times of values, what may be told; in plain Lean.
-/
set_option linter.unusedSimpArgs false
set_option linter.unusedVariables false
set_option maxRecDepth 100000
namespace Go.Proofs.Ythfeiiibedmkiaa
open Go.RowKit

/-! ### who is in a time -/
theorem all_iff (l : List Ch) (k0 key k : Nat) : allK l k0 key k = true ↔ ∀ j, j < k → hasP (mapL l (k0 + j)) key = true := by
  unfold allK; simp
theorem any_iff (l : List Ch) (k0 key k : Nat) : anyK l k0 key k = true ↔ ∃ j, j < k ∧ hasP (mapL l (k0 + j)) key = true := by
  unfold anyK; simp
theorem least_le (l : List Ch) (k0 : Nat) : ∀ {k j : Nat}, j < k → leastM l k0 k ≤ (mapL l (k0 + j)).length
  | 0, _, h => by omega
  | k + 1, j, h => by
    rw [leastM]
    by_cases e : j = k
    · subst e; omega
    · have := least_le l k0 (k := k) (j := j) (by omega); omega
theorem most_ge (l : List Ch) (k0 : Nat) : ∀ {k j : Nat}, j < k → (mapL l (k0 + j)).length ≤ mostM l k0 k
  | 0, _, h => by omega
  | k + 1, j, h => by
    rw [mostM]
    by_cases e : j = k
    · subst e; omega
    · have := most_ge l k0 (k := k) (j := j) (by omega); omega
theorem le_least (l : List Ch) (k0 : Nat) {x : Nat} (hx : x ≤ l.length + 1) : ∀ {k : Nat}, (∀ j, j < k → x ≤ (mapL l (k0 + j)).length) → x ≤ leastM l k0 k
  | 0, _ => hx
  | k + 1, h => by
    rw [leastM]
    have := le_least l k0 hx (k := k) (fun j hj => h j (by omega))
    have := h k (by omega)
    omega
theorem most_le (l : List Ch) (k0 : Nat) {x : Nat} : ∀ {k : Nat}, (∀ j, j < k → (mapL l (k0 + j)).length ≤ x) → mostM l k0 k ≤ x
  | 0, _ => Nat.zero_le _
  | k + 1, h => by
    rw [mostM]
    have := most_le l k0 (x := x) (k := k) (fun j hj => h j (by omega))
    have := h k (by omega)
    omega
theorem has_get {ps : Ps} {k : Nat} : hasP ps k = true ↔ ∃ v, getS ps k = some v := by
  unfold hasP; rw [Option.isSome_iff_exists]
theorem get_mem {ps : Ps} {k v : Nat} (h : getS ps k = some v) : (k, v) ∈ ps := by
  rw [getS_pos] at h
  split at h
  · rename_i h2
    cases h
    have := nthP_mem h2.1
    have e : nthP ps (posP ps k) = (k, (nthP ps (posP ps k)).2) := Prod.ext h2.2 rfl
    rw [e] at this
    exact this
  · cases h
theorem mem_get {ps : Ps} (hu : upB ps = true) {p : Nat × Nat} (h : p ∈ ps) : getS ps p.1 = some p.2 := by
  rw [← findP_up hu]
  unfold findP
  induction ps with
  | nil => cases h
  | cons q l ih =>
    rw [List.find?_cons]
    rcases List.mem_cons.1 h with rfl | h
    · simp
    · have := up_head hu p h
      have hq : decide (q.1 = p.1) = false := by simp; omega
      rw [hq]
      exact ih (up_tail hu) h
theorem vals_mem {l : List Ch} (hr : rightL l = true) (key v : Nat) {f t : Int} (hf : failE l f t = 0) : v ∈ valsL l key f t ↔ ∃ j, j < numT l f t ∧ getS (mapL l (cntL l f + j)) key = some v := by
  obtain ⟨-, h0, hft⟩ := fail_parts hf
  have hm := cntL_mono l hft
  have hle := cntL_le l t
  unfold valsL
  rw [if_pos hf]
  have hall : ∀ k, cntL l f + k ≤ l.length → (v ∈ (valsK l (cntL l f) key (k + 1)).1 ↔ ∃ j, j < k + 1 ∧ getS (mapL l (cntL l f + j)) key = some v) := by
    intro k
    induction k with
    | zero =>
      intro hk
      rw [(valsK_eq hr (cntL l f) key 0 hk).1]
      simp only [List.take_zero, List.filter_nil, List.map_nil, List.append_nil]
      constructor
      · intro h
        refine ⟨0, by omega, ?_⟩
        rw [Nat.add_zero]
        unfold headV at h
        cases hg : getS (mapL l (cntL l f)) key with
        | none => rw [hg] at h; simp at h
        | some u => rw [hg] at h; simp at h; rw [h]
      · rintro ⟨j, hj, hg⟩
        rw [show j = 0 by omega, Nat.add_zero] at hg
        rw [hg]; simp [headV]
    | succ k ih =>
      intro hk
      have ih := ih (by omega)
      have hlast := (valsK_eq hr (cntL l f) key (k + 1) hk).2.2
      have e1 : valsK l (cntL l f) key (k + 1 + 1) = stepV (valsK l (cntL l f) key (k + 1)) (getS (mapL l (cntL l f + (k + 1))) key) := rfl
      constructor
      · intro h
        rw [e1] at h
        unfold stepV at h
        rcases List.mem_append.1 h with h | h
        · obtain ⟨j, hj, hg⟩ := ih.1 h
          exact ⟨j, by omega, hg⟩
        · split at h
          · rename_i hc
            simp at h
            refine ⟨k + 1, by omega, ?_⟩
            cases hg : getS (mapL l (cntL l f + (k + 1))) key with
            | none => rw [hg] at hc; simp at hc
            | some u => rw [hg] at h; simp at h; rw [h]
          · cases h
      · rintro ⟨j, hj, hg⟩
        by_cases e : j = k + 1
        · subst e
          obtain ⟨a1, a2⟩ := hlast v hg
          unfold lastN at a2
          rw [List.getLastD_eq_getLast?] at a2
          cases hL : (valsK l (cntL l f) key (k + 1 + 1)).1.getLast? with
          | none => rw [List.getLast?_eq_none_iff] at hL; rw [hL] at a1; simp at a1
          | some u =>
            rw [hL] at a2
            simp at a2
            rw [← a2]
            exact List.mem_of_getLast? hL
        · rw [e1]
          unfold stepV
          exact List.mem_append_left _ (ih.2 ⟨j, by omega, hg⟩)
  have := hall (cntL l t - cntL l f) (by omega)
  unfold numT
  exact this
theorem must_mem {l : List Ch} (key : Nat) {f t : Int} (hf : failE l f t = 0) : key ∈ mustL l f t ↔ ∀ j, j < numT l f t → hasP (mapL l (cntL l f + j)) key = true := by
  rw [must_eq hf]
  unfold mustD
  simp only [List.mem_map, List.mem_filter, all_iff]
  constructor
  · rintro ⟨p, ⟨-, h⟩, rfl⟩; exact h
  · intro h
    have h0 := h 0 (by unfold numT; omega)
    rw [Nat.add_zero] at h0
    obtain ⟨v, hv⟩ := has_get.1 h0
    exact ⟨(key, v), ⟨get_mem hv, h⟩, rfl⟩
/-! ### a longer time -/
theorem in_longer (l : List Ch) {f t f' t' : Int} (h1 : f' ≤ f) (h2 : f ≤ t) (h3 : t ≤ t') {j : Nat} (hj : j < numT l f t) : ∃ j', j' < numT l f' t' ∧ cntL l f + j = cntL l f' + j' := by
  have a1 := cntL_mono l h1
  have a2 := cntL_mono l h2
  have a3 := cntL_mono l h3
  unfold numT at *
  exact ⟨cntL l f + j - cntL l f', by omega, by omega⟩
theorem least_longer (l : List Ch) {f t f' t' : Int} (h1 : f' ≤ f) (h2 : f ≤ t) (h3 : t ≤ t') : leastM l (cntL l f') (numT l f' t') ≤ leastM l (cntL l f) (numT l f t) := by
  refine le_least l _ (leastM_le _ _ _) fun j hj => ?_
  obtain ⟨j', hj', e⟩ := in_longer l h1 h2 h3 hj
  rw [e]; exact least_le l _ hj'
theorem most_longer (l : List Ch) {f t f' t' : Int} (h1 : f' ≤ f) (h2 : f ≤ t) (h3 : t ≤ t') : mostM l (cntL l f) (numT l f t) ≤ mostM l (cntL l f') (numT l f' t') := by
  refine most_le l _ fun j hj => ?_
  obtain ⟨j', hj', e⟩ := in_longer l h1 h2 h3 hj
  rw [e]; exact most_ge l _ hj'
theorem must_longer {l : List Ch} {f t f' t' : Int} (hf : failE l f t = 0) (hf' : failE l f' t' = 0) (h1 : f' ≤ f) (h3 : t ≤ t') {k : Nat} (h : k ∈ mustL l f' t') : k ∈ mustL l f t := by
  obtain ⟨-, -, h2⟩ := fail_parts hf
  rw [must_mem k hf'] at h
  rw [must_mem k hf]
  intro j hj
  obtain ⟨j', hj', e⟩ := in_longer l h1 h2 h3 hj
  rw [e]; exact h j' hj'
theorem vals_longer {l : List Ch} {f t f' t' : Int} (hf : failE l f t = 0) (hf' : failE l f' t' = 0) (h1 : f' ≤ f) (h3 : t ≤ t') {k v : Nat} (h : v ∈ valsL l k f t) : v ∈ valsL l k f' t' := by
  obtain ⟨hr, -, h2⟩ := fail_parts hf
  rw [vals_mem hr k v hf] at h
  rw [vals_mem hr k v hf']
  obtain ⟨j, hj, hg⟩ := h
  obtain ⟨j', hj', e⟩ := in_longer l h1 h2 h3 hj
  exact ⟨j', hj', by rw [← e]; exact hg⟩
/-- Pairs may be told. -/
theorem range_zero {l : List Ch} {f t : Int} {told : Ps} (hf : failE l f t = 0) : rangeE l f t told = 0 ↔ twiceB told = false ∧ (∀ p ∈ told, p.2 ∈ valsL l p.1 f t) ∧ (∀ k ∈ mustL l f t, ∃ p ∈ told, p.1 = k) := by
  unfold rangeE
  rw [if_neg (by rw [hf]; decide)]
  have h2 : told.any (neverB l f t) = true ↔ ¬ ∀ p ∈ told, p.2 ∈ valsL l p.1 f t := by
    simp only [List.any_eq_true, neverB, Bool.not_eq_true', List.contains_eq_mem, decide_eq_false_iff_not, Classical.not_forall]
    exact ⟨fun ⟨p, a, b⟩ => ⟨p, a, b⟩, fun ⟨p, a, b⟩ => ⟨p, a, b⟩⟩
  have h3 : missB (mustL l f t) told = true ↔ ¬ ∀ k ∈ mustL l f t, ∃ p ∈ told, p.1 = k := by
    unfold missB
    simp only [List.any_eq_true, Bool.not_eq_true', Classical.not_forall]
    constructor
    · rintro ⟨k, a, b⟩
      refine ⟨k, a, ?_⟩
      rintro ⟨p, hp, e⟩
      rw [List.any_eq_false] at b
      exact b p hp (by simp [e])
    · rintro ⟨k, a, b⟩
      refine ⟨k, a, ?_⟩
      rw [List.any_eq_false]
      intro p hp e
      exact b ⟨p, hp, by simpa using e⟩
  cases ht : twiceB told with
  | true => simp
  | false =>
    rw [if_neg (by decide)]
    by_cases g2 : told.any (neverB l f t) = true
    · rw [if_pos g2]
      have := h2.1 g2
      constructor
      · intro h; cases h
      · rintro ⟨-, a, -⟩; exact absurd a this
    · rw [if_neg g2]
      have g2' := Classical.not_not.1 (fun h => g2 (h2.2 h))
      by_cases g3 : missB (mustL l f t) told = true
      · rw [if_pos g3]
        have := h3.1 g3
        constructor
        · intro h; cases h
        · rintro ⟨-, -, a⟩; exact absurd a this
      · rw [if_neg g3]
        exact ⟨fun _ => ⟨rfl, g2', Classical.not_not.1 (fun h => g3 (h3.2 h))⟩, fun _ => rfl⟩
theorem range_longer {l : List Ch} {f t f' t' : Int} {told : Ps} (hf : failE l f t = 0) (hf' : failE l f' t' = 0) (h1 : f' ≤ f) (h3 : t ≤ t') (h : rangeE l f t told = 0) : rangeE l f' t' told = 0 := by
  rw [range_zero hf] at h
  rw [range_zero hf']
  obtain ⟨a, b, c⟩ := h
  exact ⟨a, fun p hp => vals_longer hf hf' h1 h3 (b p hp), fun k hk => c k (must_longer hf hf' h1 h3 hk)⟩
/-! ### the times of values -/
def inT (s : Int) (p : Int × Int) : Bool := decide (p.1 ≤ s) && (decide (p.2 < 0) || decide (s ≤ p.2))
def cntIn (s : Int) (l : List (Int × Int)) : Nat := (l.filter (inT s)).length
/-- What the last change of a key leaves it. -/
def lastK (key : Nat) : List Ch → Option Nat → Option Nat
  | [], o => o
  | c :: l, o => lastK key l (if c.key = key then (if c.has = true then some c.val else none) else o)
theorem lastK_snoc (key : Nat) (c : Ch) : ∀ (l : List Ch) (o : Option Nat), lastK key (l ++ [c]) o = if c.key = key then (if c.has = true then some c.val else none) else lastK key l o
  | [], o => rfl
  | d :: l, o => lastK_snoc key c l _
theorem get_last (l : List Ch) (key : Nat) : ∀ k, k ≤ l.length → getS (mapL l k) key = lastK key (l.take k) none
  | 0, _ => by simp [mapL, lastK, getS]
  | k + 1, hk => by
    have hkl : k < l.length := by omega
    rw [get_step hkl, List.take_succ_eq_append_getElem hkl, lastK_snoc, nthC_eq hkl, get_last l key k (by omega)]
    by_cases e : key = (nthC l k).key
    · rw [if_pos e, if_pos e.symm]
    · rw [if_neg e, if_neg (fun h => e h.symm)]
def riseC : List Ch → Prop
  | [] => True
  | c :: l => (∀ d ∈ l, c.stp < d.stp) ∧ riseC l
theorem lastK_keep (key : Nat) : ∀ (l : List Ch) (o o' : Option Nat), (∃ c ∈ l, c.key = key) → lastK key l o = lastK key l o'
  | [], _, _, h => by obtain ⟨c, hc, _⟩ := h; cases hc
  | c :: l, o, o', h => by
    rw [lastK, lastK]
    by_cases e : c.key = key
    · rw [if_pos e, if_pos e]
    · rw [if_neg e, if_neg e]
      obtain ⟨d, hd, e2⟩ := h
      rcases List.mem_cons.1 hd with rfl | hd
      · exact absurd e2 e
      · exact lastK_keep key l o o' ⟨d, hd, e2⟩
theorem lastK_none (key : Nat) : ∀ (l : List Ch) (o : Option Nat), (∀ c ∈ l, c.key ≠ key) → lastK key l o = o
  | [], _, _ => rfl
  | c :: l, o, h => by
    rw [lastK, if_neg (h c (List.mem_cons_self ..))]
    exact lastK_none key l o fun d hd => h d (List.mem_cons_of_mem _ hd)
def twC (s : Int) (l : List Ch) : List Ch := l.takeWhile fun c => decide (c.stp ≤ s)
theorem twC_cons (s : Int) (c : Ch) (l : List Ch) : twC s (c :: l) = if c.stp ≤ s then c :: twC s l else [] := by
  unfold twC; rw [List.takeWhile_cons]
  by_cases h : c.stp ≤ s <;> simp [h]
theorem endR_in (key : Nat) (s : Int) : ∀ {L : List Ch}, riseC L → (∀ c ∈ L, 1 ≤ c.stp) → ((endR key L < 0 ∨ s ≤ endR key L) ↔ ∀ c ∈ twC s L, c.key ≠ key)
  | [], _, _ => by simp [endR, twC]
  | c :: L, hR, hp => by
    have hc := hp c (List.mem_cons_self ..)
    rw [twC_cons]
    by_cases hk : c.key = key
    · have hk' : (c.key == key) = true := by simpa using hk
      have e2 : endR key (c :: L) = c.stp - 1 := by unfold endR; rw [List.find?_cons, hk']
      rw [e2]
      by_cases hs : c.stp ≤ s
      · rw [if_pos hs]
        constructor
        · intro h; omega
        · intro h; exact absurd hk (h c (List.mem_cons_self ..))
      · rw [if_neg hs]
        constructor
        · intro _ d hd; cases hd
        · intro _; omega
    · have hk' : (c.key == key) = false := by simpa using hk
      have e2 : endR key (c :: L) = endR key L := by unfold endR; rw [List.find?_cons, hk']
      rw [e2]
      have ih := endR_in key s hR.2 (fun d hd => hp d (List.mem_cons_of_mem _ hd))
      by_cases hs : c.stp ≤ s
      · rw [if_pos hs, ih]
        constructor
        · intro h d hd
          rcases List.mem_cons.1 hd with rfl | hd
          · exact hk
          · exact h d hd
        · exact fun h d hd => h d (List.mem_cons_of_mem _ hd)
      · rw [if_neg hs, ih]
        constructor
        · intro _ d hd; cases hd
        · intro _ d hd
          have h1 : d ∈ L := (List.takeWhile_sublist _).subset hd
          have h2 : decide (d.stp ≤ s) = true := by
            have := List.all_takeWhile (l := L) (p := fun c => decide (c.stp ≤ s))
            rw [List.all_eq_true] at this
            exact this d hd
          have h3 := hR.1 d h1
          simp at h2
          omega
theorem cntIn_cons (s : Int) (p : Int × Int) (l : List (Int × Int)) : cntIn s (p :: l) = (if inT s p = true then 1 else 0) + cntIn s l := by
  unfold cntIn; rw [List.filter_cons]
  split <;> simp <;> omega
theorem steps_late (key val : Nat) (s : Int) : ∀ {L : List Ch}, (∀ c ∈ L, s < c.stp) → cntIn s (stepsR key val L) = 0
  | [], _ => rfl
  | c :: L, h => by
    have ih := steps_late key val s fun d hd => h d (List.mem_cons_of_mem _ hd)
    have hc := h c (List.mem_cons_self ..)
    rw [stepsR]
    split
    · show cntIn s (_ :: stepsR key val L) = 0
      rw [cntIn_cons, ih, if_neg (by unfold inT; simp; omega)]
    · exact ih
theorem steps_cnt (key val : Nat) (s : Int) : ∀ {L : List Ch}, riseC L → (∀ c ∈ L, 1 ≤ c.stp) → cntIn s (stepsR key val L) = if lastK key (twC s L) none = some val then 1 else 0
  | [], _, _ => by simp [stepsR, cntIn, twC, lastK]
  | c :: L, hR, hp => by
    have hp' : ∀ d ∈ L, 1 ≤ d.stp := fun d hd => hp d (List.mem_cons_of_mem _ hd)
    have ih := steps_cnt key val s hR.2 hp'
    have he := endR_in key s hR.2 hp'
    rw [twC_cons]
    by_cases hs : c.stp ≤ s
    · rw [if_pos hs, lastK]
      by_cases hk : c.key = key
      · rw [if_pos hk]
        rw [stepsR]
        by_cases hno : ∀ d ∈ twC s L, d.key ≠ key
        · rw [lastK_none key _ _ hno]
          rw [lastK_none key _ _ hno] at ih
          have ih' : cntIn s (stepsR key val L) = 0 := by rw [ih, if_neg (by simp)]
          by_cases hc : condT key val c = true
          · rw [if_pos hc]
            show cntIn s (_ :: stepsR key val L) = _
            have hin : inT s (c.stp, endR key L) = true := by
              have := he.2 hno
              unfold inT; simp only [Bool.and_eq_true, Bool.or_eq_true, decide_eq_true_eq]; exact ⟨hs, this⟩
            rw [cntIn_cons, ih', if_pos hin]
            unfold condT at hc
            simp at hc
            rw [if_pos hc.2.1, if_pos (by rw [hc.2.2])]
          · rw [if_neg hc, List.nil_append, ih']
            unfold condT at hc
            simp [hk] at hc
            by_cases hh : c.has = true
            · rw [if_pos hh, if_neg (by simpa using hc hh)]
            · rw [if_neg hh, if_neg (by simp)]
        · have hex : ∃ d ∈ twC s L, d.key = key := by
            refine Classical.byContradiction fun h => hno fun d hd e => h ⟨d, hd, e⟩
          rw [lastK_keep key _ (if c.has = true then some c.val else none) none hex, ← ih]
          by_cases hc : condT key val c = true
          · rw [if_pos hc]
            show cntIn s (_ :: stepsR key val L) = _
            have hin : inT s (c.stp, endR key L) = false := by
              have h1 := fun h => hno (he.1 h)
              rw [← Bool.not_eq_true]
              unfold inT; simp only [Bool.and_eq_true, Bool.or_eq_true, decide_eq_true_eq]
              exact fun h => h1 h.2
            rw [cntIn_cons, hin]
            simp
          · rw [if_neg hc, List.nil_append]
      · rw [if_neg hk, stepsR, if_neg (by unfold condT; simp [hk]), List.nil_append]
        exact ih
    · rw [if_neg hs]
      rw [steps_late key val s fun d hd => ?_]
      · rfl
      · rcases List.mem_cons.1 hd with rfl | hd
        · omega
        · have := hR.1 d hd; omega
theorem rise_right {l : List Ch} (hr : rightL l = true) : riseC l := by
  have hall : ∀ k, k ≤ l.length → riseC (l.drop (l.length - k)) := by
    intro k
    induction k with
    | zero => intro _; rw [Nat.sub_zero, List.drop_length]; trivial
    | succ k ih =>
      intro hk
      have hlt : l.length - (k + 1) < l.length := by omega
      rw [List.drop_eq_getElem_cons hlt, show l.length - (k + 1) + 1 = l.length - k by omega]
      refine ⟨fun d hd => ?_, ih (by omega)⟩
      obtain ⟨i, hi, rfl⟩ := List.mem_iff_getElem.1 hd
      rw [List.length_drop] at hi
      have h2 : l.length - k + i < l.length := by omega
      rw [List.getElem_drop, nthC_eq hlt, nthC_eq h2]
      exact right_rise hr (by omega) h2
  have := hall l.length (Nat.le_refl _)
  rwa [Nat.sub_self, List.drop_zero] at this
theorem tw_take (l : List Ch) (s : Int) : l.take (cntL l s) = twC s l := by
  unfold cntL twC
  induction l with
  | nil => rfl
  | cons c l ih =>
    rw [List.takeWhile_cons]
    split
    · rw [List.length_cons, List.take_succ_cons, ih]
    · rfl
/-- A key has a value at just the steps of its times. -/
theorem steps_at {l : List Ch} (hr : rightL l = true) (key val : Nat) (s : Int) : cntIn s (stepsL l key val) = if getS (mapL l (cntL l s)) key = some val then 1 else 0 := by
  rw [stepsL_eq hr, steps_cnt key val s (rise_right hr) (right_mem hr), get_last l key _ (cntL_le l s), tw_take]
/-! ### what may be told: the pairs of a map of the time -/
theorem up_nodup {ps : Ps} (hu : upB ps = true) : twiceB ps = false := by
  refine twice_no fun k hk => ?_
  unfold dupP
  rw [List.any_eq_false]
  intro p hp e
  obtain ⟨j, hj, rfl⟩ := List.mem_iff_getElem.1 hp
  rw [List.length_take] at hj
  rw [List.getElem_take, nthP_eq (by omega)] at e
  have := up_lt hu (i := j) (j := k) (by omega) hk
  simp at e; omega
theorem nodup_up {ps : Ps} (hu : upB ps = true) : (ps.map (·.1)).Nodup := by
  induction ps with
  | nil => simp
  | cons p l ih =>
    rw [List.map_cons, List.nodup_cons]
    refine ⟨fun h => ?_, ih (up_tail hu)⟩
    obtain ⟨q, hq, e⟩ := List.mem_map.1 h
    have := up_head hu q hq
    omega
theorem nodup_len {a b : List Nat} (ha : a.Nodup) (h : ∀ x ∈ a, x ∈ b) : a.length ≤ b.length := by
  induction a generalizing b with
  | nil => simp
  | cons x a ih =>
    rw [List.nodup_cons] at ha
    have hx := h x (List.mem_cons_self ..)
    have h1 := ih (b := b.erase x) ha.2 fun y hy => by
      have hne : y ≠ x := fun e => ha.1 (e ▸ hy)
      exact (List.mem_erase_of_ne hne).2 (h y (List.mem_cons_of_mem _ hy))
    rw [List.length_erase_of_mem hx] at h1
    have : 0 < b.length := List.length_pos_of_mem hx
    simp only [List.length_cons]; omega
theorem must_nodup (l : List Ch) {f t : Int} (hf : failE l f t = 0) : (mustL l f t).Nodup := by
  rw [must_eq hf]
  unfold mustD
  have h := nodup_up (up_mapL l (cntL l f))
  generalize mapL l (cntL l f) = ps at *
  exact List.Pairwise.sublist (List.Sublist.map _ List.filter_sublist) h
structure AnyAt (l : List Ch) (f t : Int) (m : Ps) : Prop where
  up : upB m = true
  ok : rangeE l f t m = 0
  must : (mustL l f t).length ≤ m.length
  least : leastM l (cntL l f) (numT l f t) ≤ m.length
  most : m.length ≤ mostM l (cntL l f) (numT l f t)
  some : ∀ p ∈ m, anyK l (cntL l f) p.1 (numT l f t) = true
  val : ∀ p ∈ m, (valsL l p.1 f t).contains p.2 = true
theorem any_at {l : List Ch} {f t s : Int} (hf : failE l f t = 0) (h1 : f ≤ s) (h2 : s ≤ t) : AnyAt l f t (mapL l (cntL l s)) := by
  obtain ⟨hr, h0, hft⟩ := fail_parts hf
  have a1 := cntL_mono l h1
  have a2 := cntL_mono l h2
  obtain ⟨j, hj⟩ : ∃ j, cntL l s = cntL l f + j := ⟨cntL l s - cntL l f, by omega⟩
  have hjn : j < numT l f t := by unfold numT; omega
  rw [hj]
  have hu := up_mapL l (cntL l f + j)
  have hv : ∀ p ∈ mapL l (cntL l f + j), p.2 ∈ valsL l p.1 f t := fun p hp => (vals_mem hr p.1 p.2 hf).2 ⟨j, hjn, mem_get hu hp⟩
  have hm : ∀ k ∈ mustL l f t, ∃ p ∈ mapL l (cntL l f + j), p.1 = k := fun k hk => by
    obtain ⟨v, hv⟩ := has_get.1 ((must_mem k hf).1 hk j hjn)
    exact ⟨_, get_mem hv, rfl⟩
  refine ⟨hu, (range_zero hf).2 ⟨up_nodup hu, hv, hm⟩, ?_, least_le l _ hjn, most_ge l _ hjn, fun p hp => ?_, fun p hp => ?_⟩
  · have := nodup_len (b := (mapL l (cntL l f + j)).map (·.1)) (must_nodup l hf) fun k hk => by
      obtain ⟨p, hp, e⟩ := hm k hk
      exact List.mem_map.2 ⟨p, hp, e⟩
    simpa using this
  · rw [any_iff]
    exact ⟨j, hjn, has_get.2 ⟨_, mem_get hu hp⟩⟩
  · simpa using hv p hp
/-- One that is left out. -/
theorem range_less {l : List Ch} {f t : Int} {m : Ps} (hf : failE l f t = 0) (h : AnyAt l f t m) {i : Nat} (hi : i < m.length) : rangeE l f t (m.take i ++ m.drop (i + 1)) = if (mustL l f t).contains (nthP m i).1 = true then 383 else 0 := by
  obtain ⟨b1, b2, b3⟩ := (range_zero hf).1 h.ok
  have hsub : ∀ p ∈ m.take i ++ m.drop (i + 1), p ∈ m := fun p hp => by
    rcases List.mem_append.1 hp with hp | hp
    · exact List.mem_of_mem_take hp
    · exact List.mem_of_mem_drop hp
  have hup : upB (m.take i ++ m.drop (i + 1)) = true := by
    rw [up_iff]
    intro j hj
    rw [List.length_append, List.length_take, List.length_drop] at hj
    have hn : ∀ j, j < m.length - 1 → nthP (m.take i ++ m.drop (i + 1)) j = nthP m (if j < i then j else j + 1) := by
      intro j hj
      unfold nthP
      rw [List.getD_eq_getElem?_getD, List.getD_eq_getElem?_getD]
      by_cases e : j < i
      · rw [if_pos e, List.getElem?_append_left (by rw [List.length_take]; omega), List.getElem?_take, if_pos e]
      · rw [if_neg e, List.getElem?_append_right (by rw [List.length_take]; omega), List.getElem?_drop, List.length_take]
        congr 2; omega
    rw [hn j (by omega), hn (j + 1) (by omega)]
    refine up_lt h.up ?_ ?_
    · split <;> split <;> omega
    · split <;> omega
  have hnot : ∀ p ∈ m.take i ++ m.drop (i + 1), p.1 ≠ (nthP m i).1 := by
    intro p hp e
    rcases List.mem_append.1 hp with hp | hp
    · obtain ⟨j, hj, rfl⟩ := List.mem_iff_getElem.1 hp
      rw [List.length_take] at hj
      rw [List.getElem_take, nthP_eq (by omega)] at e
      have := up_lt h.up (i := j) (j := i) (by omega) hi
      omega
    · obtain ⟨j, hj, rfl⟩ := List.mem_iff_getElem.1 hp
      rw [List.length_drop] at hj
      rw [List.getElem_drop, nthP_eq (by omega)] at e
      have := up_lt h.up (i := i) (j := i + 1 + j) (by omega) (by omega)
      omega
  have hin : ∀ p ∈ m, p.1 ≠ (nthP m i).1 → p ∈ m.take i ++ m.drop (i + 1) := by
    intro p hp hne
    have e : m = m.take i ++ (nthP m i :: m.drop (i + 1)) := by
      rw [← nthP_eq hi, ← List.drop_eq_getElem_cons hi, List.take_append_drop]
    rw [e] at hp
    rcases List.mem_append.1 hp with hp | hp
    · exact List.mem_append_left _ hp
    · rcases List.mem_cons.1 hp with rfl | hp
      · exact absurd rfl hne
      · exact List.mem_append_right _ hp
  by_cases hc : (mustL l f t).contains (nthP m i).1 = true
  · rw [if_pos hc]
    unfold rangeE
    rw [if_neg (by rw [hf]; decide), if_neg (by rw [up_nodup hup]; decide)]
    have g2 : (m.take i ++ m.drop (i + 1)).any (neverB l f t) = false := by
      rw [List.any_eq_false]
      intro p hp
      have := b2 p (hsub p hp)
      unfold neverB; simp [this]
    rw [if_neg (by rw [g2]; decide), if_pos]
    unfold missB
    rw [List.any_eq_true]
    refine ⟨(nthP m i).1, by simpa using hc, ?_⟩
    rw [Bool.not_eq_true', List.any_eq_false]
    intro p hp
    simp [hnot p hp]
  · rw [if_neg hc]
    refine (range_zero hf).2 ⟨up_nodup hup, fun p hp => b2 p (hsub p hp), fun k hk => ?_⟩
    obtain ⟨p, hp, e⟩ := b3 k hk
    refine ⟨p, hin p hp ?_, e⟩
    rintro e2
    rw [← e2, e] at hc
    exact hc (by simpa using hk)
/-- One that is told twice. -/
theorem range_twice {l : List Ch} {f t : Int} {m : Ps} (hf : failE l f t = 0) {i : Nat} (hi : i < m.length) : rangeE l f t (m ++ [nthP m i]) = 381 := by
  unfold rangeE
  rw [if_neg (by rw [hf]; decide), if_pos]
  refine twice_yes (k := m.length) (by simp) ?_
  unfold dupP
  rw [List.take_append_of_le_length (Nat.le_refl _), List.take_length]
  have e : nthP (m ++ [nthP m i]) m.length = nthP m i := by
    conv => lhs; unfold nthP
    rw [List.getD_eq_getElem?_getD, List.getElem?_append_right (Nat.le_refl _), Nat.sub_self]
    rfl
  rw [e, List.any_eq_true]
  exact ⟨nthP m i, nthP_mem hi, by simp⟩
end Go.Proofs.Ythfeiiibedmkiaa

/-
  Arguments of layer 28, opened: rows of changes, of pairs, of times, of rows of pairs.
-/
set_option linter.unusedSimpArgs false
set_option linter.unusedVariables false
set_option maxRecDepth 100000
namespace Go.Proofs.Ythfeiiibedmkiaa
open Go.ChangeShapes Go.WideShapes Go.RowKit Go.Joins Go.Deep
variable {H : Type} {enc : TypeId × Value → H} {w : World} {base : Nat} {spare : Nat → Bool} {held : Bool}

section
variable {P : Program}
theorem open_slice_c {α : Type} {t e : TypeId} {c : Value} {n0 : Nat} {y0 : DataW H × List MemPlace} (f : α → List Value) (K : Nat) (ok : α → Prop) (hk : ∀ x, (f x).length = K) (hK : 0 < K) (ht : P.underlying t = some (.slice e)) (hC : P.cellsOf e = K)
    (hE : ∀ (n : Nat) (cs' : List Value) (y : DataW H × List MemPlace), cs'.length = K → DataW.trod enc P w base spare held n e cs' = some y → ∃ x, cs' = f x ∧ ok x)
    (hf : DataW.trod enc P w base spare held n0 t [c] = some y0) :
    ∃ (sp : Option Addr) (len cap : Nat) (xs : List α), c = .slice sp len cap ∧ SlK w K sp len (xs.flatMap f) ∧ len = xs.length ∧ (∀ x ∈ xs, ok x) ∧ (sp = none → cap = 0) ∧ len ≤ cap := by
  rcases open_slice ht hf with ⟨hcs, _⟩ | ⟨a, len, cap, m, n, D, Pl, hcs, _, hl, hm, hmm, _, hx⟩
  · have e : c = .slice none 0 0 := by simpa using hcs
    exact ⟨none, 0, 0, [], e, SlK.nil _ _ _, rfl, fun x hx => (by cases hx), fun _ => rfl, Nat.le_refl _⟩
  · have e : c = .slice (some a) len cap := by simpa using hcs
    have hlm : len ≤ m := by rw [hmm]; split <;> omega
    rw [hC] at hx
    obtain ⟨xs, hxl, hxs⟩ := pick_list (p := fun i x => w.cells? base (a.add (i * K)) K = some (f x) ∧ ok x) len (fun i hi => by
      obtain ⟨cs', h1, h2⟩ := hx i (by omega)
      obtain ⟨_, hlen, _⟩ := World.cells?_some h1
      obtain ⟨x, rfl, hok⟩ := hE n cs' _ hlen h2
      exact ⟨x, h1, hok⟩)
    refine ⟨some a, len, cap, xs, e, ⟨by rw [flatMap_len hk, hxl], Nat.le_trans hl hm, ?_⟩, hxl.symm, fun x hx => ?_, fun h => (by cases h), hl⟩
    · by_cases h0 : len = 0
      · exact .inl h0
      · obtain ⟨b, off, spot⟩ := a
        have h1 := (World.cells?_some (hxs 0 (by omega)).1).2.2 0 hK
        have h2 : (f (xs[0]'(by omega)))[0]? = some ((f (xs[0]'(by omega)))[0]'(by rw [hk]; exact hK)) := List.getElem?_eq_getElem _
        have hspot : spot = none := by
          have := World.cell?_spot (h1.trans h2)
          simpa [Addr.add] using this
        subst hspot
        refine .inr ⟨b, off, rfl, fun j u hu => ?_⟩
        have hadd : ∀ q, (⟨b, off, none⟩ : Addr).add q = ⟨b, off + q, none⟩ := fun q => by unfold Addr.add; split <;> simp_all
        have hadd2 : ∀ q s, (⟨b, q, none⟩ : Addr).add s = ⟨b, q + s, none⟩ := fun q s => by unfold Addr.add; split <;> simp_all
        have hj : j < xs.length * K := by
          have := (List.getElem?_eq_some_iff.1 hu).1
          rwa [flatMap_len hk] at this
        have hq : j / K < xs.length := (Nat.div_lt_iff_lt_mul hK).2 hj
        have hr : j % K < K := Nat.mod_lt _ hK
        have hd : j / K * K + j % K = j := by rw [Nat.mul_comm]; exact Nat.div_add_mod j K
        have h3 := (World.cells?_some (hxs (j / K) hq).1).2.2 (j % K) hr
        rw [hadd, hadd2, Nat.add_assoc, hd] at h3
        rw [h3, ← flatMap_get hk xs (j / K) (j % K) hr hq, hd]
        exact hu
    · obtain ⟨i, hi, rfl⟩ := List.mem_iff_getElem.1 hx
      exact (hxs i hi).2
/-- The fields of a struct that lies in a row. -/
theorem trod_fields {t : TypeId} {fs : Array Field} {cs : List Value} {n0 : Nat} {y0 : DataW H × List MemPlace} (hs : P.underlying t = some (.struct fs)) (hone : oneCellFields P fs = true) (hl : cs.length = fs.size)
    (hf : DataW.trod enc P w base spare held n0 t cs = some y0) :
    ∀ (j : Nat) (f : Field), fs[j]? = some f → ∃ (c : Value) (n : Nat) (y : DataW H × List MemPlace), cs[j]? = some c ∧ DataW.trod enc P w base spare held n f.type [c] = some y := by
  obtain ⟨xs, n, _, hx, _, hl', hg⟩ := DataW.trod_struct hs hf
  intro j f hj
  have hjl : j < fs.size := (Array.getElem?_eq_some_iff.1 hj).1
  obtain ⟨ho, hk⟩ := hone_of hone j f hj
  have h1 := hg j f hj
  rw [ho, hk] at h1
  have e : (cs.drop j).take 1 = [cs[j]'(by omega)] := by
    rw [List.drop_eq_getElem_cons (by omega)]; rfl
  rw [e, List.getElem?_eq_getElem (by omega)] at h1
  exact ⟨cs[j]'(by omega), n, _, List.getElem?_eq_getElem (by omega), h1⟩
theorem field_at {fs : Array Field} {cs : List Value} (hf : ∀ (j : Nat) (f : Field), fs[j]? = some f → ∃ (c : Value) (n : Nat) (y : DataW H × List MemPlace), cs[j]? = some c ∧ DataW.trod enc P w base spare held n f.type [c] = some y)
    (j : Nat) (t : TypeId) (hj : (fs[j]?).map (·.type) = some t) : ∃ (c : Value) (n : Nat) (y : DataW H × List MemPlace), cs[j]? = some c ∧ DataW.trod enc P w base spare held n t [c] = some y := by
  cases hfj : fs[j]? with
  | none => rw [hfj] at hj; cases hj
  | some f =>
    rw [hfj] at hj
    obtain ⟨c, n, y, hc, ht'⟩ := hf j f hfj
    have ef : f.type = t := by simpa using hj
    rw [ef] at ht'
    exact ⟨c, n, y, hc, ht'⟩
end
theorem list1 {cs : List Value} {c0 : Value} (hl : cs.length = 1) (h0 : cs[0]? = some c0) : cs = [c0] := by
  match cs, hl with
  | [a0], _ => simp at h0; rw [h0]
theorem list2 {cs : List Value} {c0 c1 : Value} (hl : cs.length = 2) (h0 : cs[0]? = some c0) (h1 : cs[1]? = some c1) : cs = [c0, c1] := by
  match cs, hl with
  | [a0, a1], _ => simp at h0 h1; rw [h0, h1]
theorem list4 {cs : List Value} {c0 c1 c2 c3 : Value} (hl : cs.length = 4) (h0 : cs[0]? = some c0) (h1 : cs[1]? = some c1) (h2 : cs[2]? = some c2) (h3 : cs[3]? = some c3) : cs = [c0, c1, c2, c3] := by
  match cs, hl with
  | [a0, a1, a2, a3], _ => simp at h0 h1 h2 h3; rw [h0, h1, h2, h3]
abbrev prL (p : Nat × Nat) : List Value := [.int .u64 (p.1 : Int), .int .u64 (p.2 : Int)]
theorem pair_of {n : Nat} {cs : List Value} {y : DataW H × List MemPlace} (hl : cs.length = 2) (h : DataW.trod enc Try.prog w base spare held n 38 cs = some y) : ∃ p : Nat × Nat, cs = prL p ∧ (p.1 < 2 ^ 64 ∧ p.2 < 2 ^ 64) := by
  have hf := trod_fields Try.underlying38 (by kernel_rfl) hl h
  obtain ⟨z0, e0, w0⟩ := field_int hf 0 36 .u64 rfl Try.underlying36
  obtain ⟨z1, e1, w1⟩ := field_int hf 1 36 .u64 rfl Try.underlying36
  obtain ⟨n0, rfl, b0⟩ := nat_of_u64 w0
  obtain ⟨n1, rfl, b1⟩ := nat_of_u64 w1
  exact ⟨(n0, n1), list2 hl e0 e1, b0, b1⟩
/-- A row of pairs that came in. -/
structure RowIn (w : World) (sp : Option Addr) (len cap : Nat) (ps : Ps) : Prop where
  sl : SlK w 2 sp len (prs ps)
  ok : P64 ps
  nil : sp = none → cap = 0
  le : len ≤ cap
theorem pairs_of {n : Nat} {c : Value} {y : DataW H × List MemPlace} (h : DataW.trod enc Try.prog w base spare held n 24 [c] = some y) : ∃ sp len cap ps, c = .slice sp len cap ∧ RowIn w sp len cap ps := by
  obtain ⟨sp, len, cap, xs, hc, hS, _, hok, hn, hle⟩ := open_slice_c prL 2 (fun p => p.1 < 2 ^ 64 ∧ p.2 < 2 ^ 64) (fun _ => rfl) (by decide) Try.underlying24 (by kernel_rfl) (fun n cs y hl hy => pair_of hl hy) h
  exact ⟨sp, len, cap, xs, hc, hS, hok, hn, hle⟩
theorem open_pairs {r : Reach} {b0 : Nat} {v : Value} {d : DataW H} {p : List MemPlace} (hv : Value.okWide Try.prog w r b0 24 v) (h : DataW.Trod enc Try.prog w base spare held 24 v d p) : ∃ sp len cap l, v = .slice sp len cap ∧ RowIn w sp len cap l := by
  obtain ⟨sp, len, cap, rfl⟩ := okWide_slice Try.underlying24 hv
  obtain ⟨fuel, hf⟩ := h
  exact pairs_of (by simpa [Value.cells] using hf)
theorem change_cells {cs : List Value} {fs : Array Field} (hl : cs.length = 4) (hf : ∀ (j : Nat) (f : Field), fs[j]? = some f → ∃ (c : Value) (n : Nat) (y : DataW H × List MemPlace), cs[j]? = some c ∧ DataW.trod enc Try.prog w base spare held n f.type [c] = some y)
    (h0 : (fs[0]?).map (·.type) = some 3) (h1 : (fs[1]?).map (·.type) = some 36) (h2 : (fs[2]?).map (·.type) = some 4) (h3 : (fs[3]?).map (·.type) = some 36) : ∃ c : Ch, cs = chL c ∧ ChOk c := by
  obtain ⟨z0, e0, w0⟩ := field_int hf 0 3 .i64 h0 Try.underlying3
  obtain ⟨z1, e1, w1⟩ := field_int hf 1 36 .u64 h1 Try.underlying36
  obtain ⟨z2, e2⟩ := field_bool hf 2 4 h2 Try.underlying4
  obtain ⟨z3, e3, w3⟩ := field_int hf 3 36 .u64 h3 Try.underlying36
  obtain ⟨n1, rfl, b1⟩ := nat_of_u64 w1
  obtain ⟨n3, rfl, b3⟩ := nat_of_u64 w3
  have := wf_i64' w0
  exact ⟨⟨z0, n1, z2, n3⟩, list4 hl e0 e1 e2 e3, this.1, this.2, b1, b3⟩
/-- A row of changes that came in. -/
structure ChIn (w : World) (sp : Option Addr) (len cap : Nat) (l : List Ch) : Prop where
  sl : SlK w 4 sp len (chs l)
  ok : ∀ c ∈ l, ChOk c
  nil : sp = none → cap = 0
  le : len ≤ cap
theorem open_changes {r : Reach} {b0 : Nat} {v : Value} {d : DataW H} {p : List MemPlace} (hv : Value.okWide Try.prog w r b0 22 v) (h : DataW.Trod enc Try.prog w base spare held 22 v d p) : ∃ sp len cap l, v = .slice sp len cap ∧ ChIn w sp len cap l := by
  obtain ⟨sp, len, cap, rfl⟩ := okWide_slice Try.underlying22 hv
  obtain ⟨fuel, hf⟩ := h
  have hf' : DataW.trod enc Try.prog w base spare held fuel 22 [.slice sp len cap] = some (d, p) := by simpa [Value.cells] using hf
  obtain ⟨sp, len, cap, xs, hc, hS, _, hok, hn, hle⟩ := open_slice_c chL 4 ChOk chL_len (by decide) Try.underlying22 (by kernel_rfl) (fun n cs y hl hy => change_cells hl (trod_fields Try.underlying46 (by kernel_rfl) hl hy) rfl rfl rfl rfl) hf'
  exact ⟨sp, len, cap, xs, hc, hS, hok, hn, hle⟩
def I64 (x : Int) : Prop := -9223372036854775808 ≤ x ∧ x ≤ 9223372036854775807
structure TmOk (p : Int × Int) : Prop where
  f : I64 p.1
  t : I64 p.2
theorem time_cells {cs : List Value} {fs : Array Field} (hl : cs.length = 2) (hf : ∀ (j : Nat) (f : Field), fs[j]? = some f → ∃ (c : Value) (n : Nat) (y : DataW H × List MemPlace), cs[j]? = some c ∧ DataW.trod enc Try.prog w base spare held n f.type [c] = some y)
    (h0 : (fs[0]?).map (·.type) = some 3) (h1 : (fs[1]?).map (·.type) = some 3) : ∃ p : Int × Int, cs = tmL p ∧ TmOk p := by
  obtain ⟨z0, e0, w0⟩ := field_int hf 0 3 .i64 h0 Try.underlying3
  obtain ⟨z1, e1, w1⟩ := field_int hf 1 3 .i64 h1 Try.underlying3
  exact ⟨(z0, z1), list2 hl e0 e1, wf_i64' w0, wf_i64' w1⟩
theorem open_time {r : Reach} {b0 : Nat} {v : Value} {d : DataW H} {p : List MemPlace} (hv : Value.okWide Try.prog w r b0 43 v) (h : DataW.Trod enc Try.prog w base spare held 43 v d p) : ∃ f t : Int, v = .agg (tmA f t) ∧ TmOk (f, t) := by
  obtain ⟨cs, rfl, hl, hf⟩ := open_cells Try.underlying43 (by kernel_rfl) (by kernel_rfl) hv h
  obtain ⟨⟨f, t⟩, rfl, hc⟩ := time_cells hl hf rfl rfl
  exact ⟨f, t, rfl, hc⟩
/-- A row of times that came in. -/
structure TmIn (w : World) (sp : Option Addr) (len cap : Nat) (l : List (Int × Int)) : Prop where
  sl : SlK w 2 sp len (tms l)
  ok : ∀ p ∈ l, TmOk p
  nil : sp = none → cap = 0
  le : len ≤ cap
theorem open_times {r : Reach} {b0 : Nat} {v : Value} {d : DataW H} {p : List MemPlace} (hv : Value.okWide Try.prog w r b0 39 v) (h : DataW.Trod enc Try.prog w base spare held 39 v d p) : ∃ sp len cap l, v = .slice sp len cap ∧ TmIn w sp len cap l := by
  obtain ⟨sp, len, cap, rfl⟩ := okWide_slice Try.underlying39 hv
  obtain ⟨fuel, hf⟩ := h
  have hf' : DataW.trod enc Try.prog w base spare held fuel 39 [.slice sp len cap] = some (d, p) := by simpa [Value.cells] using hf
  obtain ⟨sp, len, cap, xs, hc, hS, _, hok, hn, hle⟩ := open_slice_c tmL 2 TmOk tmL_len (by decide) Try.underlying39 (by kernel_rfl) (fun n cs y hl hy => time_cells hl (trod_fields Try.underlying43 (by kernel_rfl) hl hy) rfl rfl) hf'
  exact ⟨sp, len, cap, xs, hc, hS, hok, hn, hle⟩
/-- A row of pairs in a row. -/
structure PRow where
  sp : Option Addr
  len : Nat
  cap : Nat
  ps : Ps
def rpL (x : PRow) : List Value := [.slice x.sp x.len x.cap]
structure RowsIn (w : World) (sp : Option Addr) (len cap : Nat) (l : List PRow) : Prop where
  sl : SlK w 1 sp len (l.flatMap rpL)
  ok : ∀ x ∈ l, RowIn w x.sp x.len x.cap x.ps
  nil : sp = none → cap = 0
  le : len ≤ cap
theorem open_rows {r : Reach} {b0 : Nat} {v : Value} {d : DataW H} {p : List MemPlace} (hv : Value.okWide Try.prog w r b0 48 v) (h : DataW.Trod enc Try.prog w base spare held 48 v d p) : ∃ sp len cap l, v = .slice sp len cap ∧ RowsIn w sp len cap l := by
  obtain ⟨sp, len, cap, rfl⟩ := okWide_slice Try.underlying48 hv
  obtain ⟨fuel, hf⟩ := h
  have hf' : DataW.trod enc Try.prog w base spare held fuel 48 [.slice sp len cap] = some (d, p) := by simpa [Value.cells] using hf
  obtain ⟨sp, len, cap, xs, hc, hS, _, hok, hn, hle⟩ := open_slice_c rpL 1 (fun x => RowIn w x.sp x.len x.cap x.ps) (fun _ => rfl) (by decide) Try.underlying48 (by kernel_rfl) (fun n cs y hl hy => by
    match cs, hl with
    | [c], _ =>
      obtain ⟨sp, len, cap, ps, rfl, hR⟩ := pairs_of hy
      exact ⟨⟨sp, len, cap, ps⟩, rfl, hR⟩) hf'
  exact ⟨sp, len, cap, xs, hc, hS, hok, hn, hle⟩
end Go.Proofs.Ythfeiiibedmkiaa

/-
  Chapter 28: every function, for every line, in one contract each.
-/
set_option linter.unusedSimpArgs false
set_option linter.unusedVariables false
set_option maxRecDepth 100000
namespace Go.Proofs.Ythfeiiibedmkiaa
open Go.RowKit

/-- A line of the chapter's, as it lies. -/
structure Ln (W : World) (sp : Option Addr) (n cap : Nat) (l : List Ch) : Prop where
  sl : SlK W 4 sp n (chs l)
  hs : ∀ a, sp = some a → a.block < W.heap.size
  hn : n ≤ 24
  nil : sp = none → cap = 0
  le : n ≤ cap
  ok : ∀ c ∈ l, ChOk c
theorem Ln.below {W W' : World} {sp : Option Addr} {n cap : Nat} {l : List Ch} (h : Ln W sp n cap l) (hb : Below W.heap.size W W') : Ln W' sp n cap l :=
  ⟨h.sl.below hb, fun a ha => Nat.lt_of_lt_of_le (h.hs a ha) hb.size, h.hn, h.nil, h.le, h.ok⟩
theorem Ln.hn' {W : World} {sp : Option Addr} {n cap : Nat} {l : List Ch} (h : Ln W sp n cap l) : n ≤ 4000 := Nat.le_trans h.hn (by decide)
theorem few_ln (sp : Option Addr) (n cap : Nat) (x : List Ch) (w : World) (h : ChIn w sp n cap x) :
    Calls Try.prog 10 #[.slice sp n cap] w fun e w' => ∃ s m c, e = .returned (.slice s m c) ∧ Below w.heap.size w w' ∧ Ln w' s m c (x.take 24) := by
  refine (few_any sp n cap x w h.sl h.nil h.le).mono ?_
  rintro e w' ⟨s, c, rfl, hb, hrow⟩
  obtain ⟨s', c', e, hle, hnil, hs⟩ := row_form hrow
  cases e
  have hl : (x.take 24).length ≤ 24 := by rw [List.length_take]; omega
  exact ⟨s, _, c, rfl, hb, SlK.of_row hrow (Nat.le_trans hl (by decide)), fun a ha => (hs a ha).2.1, hl, hnil, hle, fun c hc => h.ok c (List.mem_of_mem_take hc)⟩
variable {W : World} {sp : Option Addr} {n cap : Nat} {l : List Ch}
theorem check_ln (L : Ln W sp n cap l) : Calls Try.prog 12 #[.slice sp n cap] W fun e w' => e = .returned (.int .i64 (chkE l)) ∧ Below W.heap.size W w' := rcheck_any sp n cap l W L.sl L.hs L.hn'
theorem right_ln (L : Ln W sp n cap l) : Calls Try.prog 11 #[.slice sp n cap] W fun e w' => e = .returned (.bool (rightL l)) ∧ Below W.heap.size W w' := rdRight_any sp n cap l W L.sl L.hn'
theorem range_fail {f t : Int} (told : Ps) (h : failE l f t ≠ 0) : rangeE l f t told = failE l f t := by unfold rangeE; rw [if_pos h]
theorem range_ln (L : Ln W sp n cap l) (f t : Int) (st : Option Addr) (nt ct : Nat) (told : Ps) (hT : SlK W 2 st nt (prs told)) (hP : P64 told) (hnt : nt ≤ 4096) :
    Calls Try.prog 23 #[.slice sp n cap, .agg (tmA f t), .slice st nt ct] W fun e w' => e = .returned (.int .i64 (rangeE l f t told)) ∧ Below W.heap.size W w' := by
  by_cases hf : failE l f t = 0
  · exact range_yes sp n cap l f t st nt ct told W L.sl L.hs L.hn' L.nil L.le L.ok hT hP hnt hf
  · rw [range_fail told hf]
    exact range_no sp n cap l f t (.slice st nt ct) W L.sl L.hs L.hn' hf
theorem rdRange_ln (L : Ln W sp n cap l) (f t : Int) (st : Option Addr) (nt ct : Nat) (told : Ps) (hT : SlK W 2 st nt (prs told)) (hnt : nt ≤ 4096) (hf : failE l f t = 0) :
    Calls Try.prog 22 #[.slice sp n cap, .agg (tmA f t), .slice st nt ct] W fun e w' => e = .returned (.int .i64 (rangeE l f t told)) ∧ Below W.heap.size W w' := by
  obtain ⟨hr, h0, h1⟩ := fail_parts hf
  rw [range_eq told hf]
  exact rdRange_any sp n cap l f t st nt ct told W L.sl L.hn' hr h1 hT hnt
/-- The map at a step, as Map tells it. -/
def mapA (l : List Ch) (s : Int) : Ps := if failE l s s = 0 then mapL l (cntL l s) else []
theorem up_mapA (l : List Ch) (s : Int) : upB (mapA l s) = true := by
  unfold mapA; split
  · exact up_mapL _ _
  · rfl
theorem len_mapA (l : List Ch) (s : Int) : (mapA l s).length ≤ l.length := by
  unfold mapA; split
  · exact Nat.le_trans (len_mapL l _) (cntL_le l s)
  · exact Nat.zero_le _
theorem map_ln (L : Ln W sp n cap l) (s : Int) :
    Calls Try.prog 13 #[.slice sp n cap, .int .i64 s] W fun e w' => ∃ s' n' c', e = .returned (.tuple #[.agg #[.slice s' n' c'], .int .i64 (failE l s s)]) ∧ Below W.heap.size W w' ∧ SlK w' 2 s' n' (prs (mapA l s)) ∧ (s' = none → c' = 0) ∧ n' ≤ c' := by
  unfold mapA
  by_cases hf : failE l s s = 0
  · rw [if_pos hf, hf]
    refine (rMap_yes sp n cap l s W L.sl L.hs L.hn' L.nil L.le hf).mono ?_
    rintro e w' ⟨hb, s', n', c', rfl, hS, hn, hc⟩
    exact ⟨s', n', c', rfl, hb, hS, hn, hc⟩
  · rw [if_neg hf]
    refine (rMap_no sp n cap l s W L.sl L.hs L.hn' hf).mono ?_
    rintro e w' ⟨rfl, hb⟩
    exact ⟨none, 0, 0, rfl, hb, SlK.nil _ _ _, fun _ => rfl, Nat.le_refl _⟩
theorem rdMap_ln (L : Ln W sp n cap l) (s : Int) (hf : failE l s s = 0) :
    Calls Try.prog 14 #[.slice sp n cap, .int .i64 s] W fun e w' => ∃ s' n' c', e = .returned (.agg #[.slice s' n' c']) ∧ Below W.heap.size W w' ∧ SlK w' 2 s' n' (prs (mapA l s)) ∧ ∀ a, s' = some a → W.heap.size ≤ a.block := by
  obtain ⟨hr, h0, h1⟩ := fail_parts hf
  refine (rdMap_any sp n cap l s W L.sl L.hn' hr).mono ?_
  have hl := len_mapA l s
  unfold mapA at hl ⊢
  rw [if_pos hf] at hl ⊢
  rintro e w' ⟨s', n', c', rfl, hb, hrow⟩
  obtain rfl := row_len9 hrow
  have := chs_len L.sl
  have := L.hn
  obtain ⟨s2, c2, e2, _, _, hs2⟩ := row_form hrow
  cases e2
  exact ⟨_, _, _, rfl, hb, SlK.of_row hrow (by unfold maxLen; omega), fun a ha => (hs2 a ha).1⟩
def szL (l : List Ch) (f t : Int) : Nat := if failE l f t = 0 then leastM l (cntL l f) (numT l f t) else 0
def szM (l : List Ch) (f t : Int) : Nat := if failE l f t = 0 then mostM l (cntL l f) (numT l f t) else 0
theorem sizes_ln (L : Ln W sp n cap l) (f t : Int) :
    Calls Try.prog 25 #[.slice sp n cap, .agg (tmA f t)] W fun e w' => e = .returned (.tuple #[.int .i64 (szL l f t : Nat), .int .i64 (szM l f t : Nat), .int .i64 (failE l f t)]) ∧ Below W.heap.size W w' := by
  unfold szL szM
  by_cases hf : failE l f t = 0
  · rw [if_pos hf, if_pos hf, hf]
    exact rSizes_yes sp n cap l f t W L.sl L.hs L.hn' L.nil L.le hf
  · rw [if_neg hf, if_neg hf]
    exact rSizes_no sp n cap l f t W L.sl L.hs L.hn' hf
theorem rdSizes_ln (L : Ln W sp n cap l) (f t : Int) (hf : failE l f t = 0) :
    Calls Try.prog 32 #[.slice sp n cap, .agg (tmA f t)] W fun e w' => e = .returned (.tuple #[.int .i64 (szL l f t : Nat), .int .i64 (szM l f t : Nat)]) ∧ Below W.heap.size W w' := by
  obtain ⟨hr, h0, h1⟩ := fail_parts hf
  unfold szL szM
  rw [if_pos hf, if_pos hf]
  exact rdSizes_any sp n cap l f t W L.sl L.hn' hr h1
theorem len_ln (L : Ln W sp n cap l) (f t : Int) (x : Nat) : Calls Try.prog 34 #[.slice sp n cap, .agg (tmA f t), .int .u64 x] W fun e w' => e = .returned (.bool (lenB l f t x)) ∧ Below W.heap.size W w' := rLen_any sp n cap l f t x W L.sl L.hs L.hn' L.nil L.le
theorem sz_le (L : Ln W sp n cap l) (f t : Int) : szL l f t ≤ 25 ∧ szM l f t ≤ 49 := by
  have h1 := chs_len L.sl
  have h2 := L.hn
  unfold szL szM
  have b1 := leastM_le l (cntL l f) (numT l f t)
  have b2 := mostM_le l (cntL l f) (numT l f t)
  have b3 : cntL l f + numT l f t ≤ 49 := by unfold numT; have := cntL_le l f; have := cntL_le l t; omega
  constructor <;> split <;> omega
def hAll (l : List Ch) (key : Nat) (f t : Int) : Bool := if failE l f t = 0 then allK l (cntL l f) key (numT l f t) else false
def hSome (l : List Ch) (key : Nat) (f t : Int) : Bool := if failE l f t = 0 then anyK l (cntL l f) key (numT l f t) else false
theorem held_ln (L : Ln W sp n cap l) (key : Nat) (f t : Int) :
    Calls Try.prog 29 #[.slice sp n cap, .int .u64 key, .agg (tmA f t)] W fun e w' => e = .returned (.tuple #[.bool (hAll l key f t), .bool (hSome l key f t)]) ∧ Below W.heap.size W w' := by
  unfold hAll hSome
  by_cases hf : failE l f t = 0
  · rw [if_pos hf, if_pos hf]
    exact rHeld_yes sp n cap l key f t W L.sl L.hs L.hn' L.nil L.le hf
  · rw [if_neg hf, if_neg hf]
    exact rHeld_no sp n cap l key f t W L.sl L.hs L.hn' hf
theorem rdHeld_ln (L : Ln W sp n cap l) (key : Nat) (f t : Int) (hf : failE l f t = 0) :
    Calls Try.prog 35 #[.slice sp n cap, .int .u64 key, .agg (tmA f t)] W fun e w' => e = .returned (.tuple #[.bool (hAll l key f t), .bool (hSome l key f t)]) ∧ Below W.heap.size W w' := by
  obtain ⟨hr, h0, h1⟩ := fail_parts hf
  unfold hAll hSome
  rw [if_pos hf, if_pos hf]
  exact rdHeld_any sp n cap l key f t W L.sl L.hn' hr h1
/-- A row of words that is told. -/
def RowU (W : World) (out : List Nat) (e : Ending) (w' : World) : Prop := ∃ s c, e = .returned (.slice s out.length c) ∧ Below W.heap.size W w' ∧ w'.ownsRow W.heap.size 36 1 (.slice s out.length c) out.length (u64s out)
theorem vals_ln (L : Ln W sp n cap l) (key : Nat) (f t : Int) : Calls Try.prog 30 #[.slice sp n cap, .int .u64 key, .agg (tmA f t)] W (RowU W (valsL l key f t)) := by
  by_cases hf : failE l f t = 0
  · refine (rValues_yes sp n cap l key f t W L.sl L.hs L.hn' L.nil L.le hf).mono ?_
    rintro e w' ⟨s, n', c, rfl, hb, hrow⟩
    obtain rfl := row_len9 hrow
    exact ⟨s, c, rfl, hb, hrow⟩
  · refine (rValues_no sp n cap l key f t W L.sl L.hs L.hn' hf).mono ?_
    have e0 : valsL l key f t = [] := by unfold valsL; rw [if_neg hf]
    rw [e0]
    rintro e w' ⟨rfl, hb⟩
    exact ⟨none, 0, rfl, hb, World.ownsRow_nil _ _ _ _⟩
theorem rdVals_ln (L : Ln W sp n cap l) (key : Nat) (f t : Int) (hf : failE l f t = 0) : Calls Try.prog 36 #[.slice sp n cap, .int .u64 key, .agg (tmA f t)] W (RowU W (valsL l key f t)) := by
  obtain ⟨hr, h0, h1⟩ := fail_parts hf
  rw [vals_eq key hf]
  refine (rdValues_any sp n cap l key f t W L.sl L.hn' hr).mono ?_
  rintro e w' ⟨s, n', c, rfl, hb, hrow⟩
  obtain rfl := row_len9 hrow
  exact ⟨s, c, rfl, hb, hrow⟩
theorem must_ln (L : Ln W sp n cap l) (f t : Int) : Calls Try.prog 26 #[.slice sp n cap, .agg (tmA f t)] W (RowU W (mustL l f t)) := by
  by_cases hf : failE l f t = 0
  · refine (rMust_yes sp n cap l f t W L.sl L.hs L.hn' L.nil L.le hf).mono ?_
    rintro e w' ⟨s, n', c, rfl, hb, hrow⟩
    obtain rfl := row_len9 hrow
    exact ⟨s, c, rfl, hb, hrow⟩
  · refine (rMust_no sp n cap l f t W L.sl L.hs L.hn' hf).mono ?_
    have e0 : mustL l f t = [] := by unfold mustL; rw [if_neg hf]
    rw [e0]
    rintro e w' ⟨rfl, hb⟩
    exact ⟨none, 0, rfl, hb, World.ownsRow_nil _ _ _ _⟩
theorem rdMust_ln (L : Ln W sp n cap l) (f t : Int) (hf : failE l f t = 0) : Calls Try.prog 31 #[.slice sp n cap, .agg (tmA f t)] W (RowU W (mustL l f t)) := by
  obtain ⟨hr, h0, h1⟩ := fail_parts hf
  rw [must_eq hf]
  refine (rdMust_any sp n cap l f t W L.sl L.hn' hr h1).mono ?_
  rintro e w' ⟨s, n', c, rfl, hb, hrow⟩
  obtain rfl := row_len9 hrow
  exact ⟨s, c, rfl, hb, hrow⟩
/-- A row of times that is told. -/
def RowT (W : World) (out : List (Int × Int)) (e : Ending) (w' : World) : Prop := ∃ s c, e = .returned (.slice s out.length c) ∧ Below W.heap.size W w' ∧ w'.ownsRow W.heap.size 43 2 (.slice s out.length c) out.length (tms out)
theorem steps_ln (L : Ln W sp n cap l) (key val : Nat) : Calls Try.prog 18 #[.slice sp n cap, .int .u64 key, .int .u64 val] W (RowT W (stepsL l key val)) := by
  cases hr : rightL l with
  | true =>
    refine (rSteps_yes sp n cap l key val W L.sl L.hs L.hn' hr (fun c hc => (L.ok c hc).hi)).mono ?_
    rintro e w' ⟨s, n', c, rfl, hb, hrow⟩
    obtain rfl := row_len9 hrow
    exact ⟨s, c, rfl, hb, hrow⟩
  | false =>
    refine (rSteps_no sp n cap l key val W L.sl L.hs L.hn' hr).mono ?_
    have e0 : stepsL l key val = [] := by unfold stepsL; rw [if_neg (by rw [hr]; decide)]
    rw [e0]
    rintro e w' ⟨rfl, hb⟩
    exact ⟨none, 0, rfl, hb, World.ownsRow_nil _ _ _ _⟩
theorem rdSteps_ln (L : Ln W sp n cap l) (key val : Nat) (hr : rightL l = true) : Calls Try.prog 16 #[.slice sp n cap, .int .u64 key, .int .u64 val] W (RowT W (stepsL l key val)) := by
  rw [steps_eq hr]
  refine (rdSteps_any sp n cap l key val W L.sl L.hn' L.le hr L.ok).mono ?_
  rintro e w' ⟨s, n', c, rfl, hb, hrow⟩
  obtain rfl := row_len9 hrow
  exact ⟨s, c, rfl, hb, hrow⟩
theorem vals_len (L : Ln W sp n cap l) (key : Nat) (f t : Int) : (valsL l key f t).length ≤ 49 := by
  have h1 := chs_len L.sl
  have h2 := L.hn
  unfold valsL
  split
  · refine Nat.le_trans (valsK_le l _ key _) ?_
    unfold numT; have := cntL_le l t; omega
  · exact Nat.zero_le _
theorem must_len (L : Ln W sp n cap l) (f t : Int) : (mustL l f t).length ≤ 24 := by
  have h1 := chs_len L.sl
  have h2 := L.hn
  unfold mustL
  split
  · rw [List.length_map]
    refine Nat.le_trans (leftK_le l _ _) ?_
    have := cntL_le l f; omega
  · exact Nat.zero_le _
theorem steps_len (L : Ln W sp n cap l) (key val : Nat) : (stepsL l key val).length ≤ 24 := by
  have h1 := chs_len L.sl
  have h2 := L.hn
  cases hr : rightL l with
  | true => rw [steps_eq hr]; exact Nat.le_trans (stepsD_le l key val _) (by omega)
  | false => unfold stepsL; rw [if_neg (by rw [hr]; decide)]; exact Nat.zero_le _
theorem span_yes {f t : Int} (hf : failE l f t = 0) : rightL l = true ∧ spanB f t = true := by
  obtain ⟨a, b, c⟩ := fail_parts hf
  exact ⟨a, by unfold spanB; simp [b, c]⟩
theorem fail_wrong {f t : Int} (h : rightL l = false) : failE l f t = 380 := by unfold failE; rw [if_neg (by rw [h]; decide)]
theorem fail_span {f t : Int} (h : rightL l = true) (hs : spanB f t = false) : failE l f t = 2 := by unfold failE; rw [if_pos h, if_neg (by rw [hs]; decide)]
theorem fail_ok {f t : Int} (h : rightL l = true) (hs : spanB f t = true) : failE l f t = 0 := by unfold failE; rw [if_pos h, if_pos hs]
end Go.Proofs.Ythfeiiibedmkiaa

