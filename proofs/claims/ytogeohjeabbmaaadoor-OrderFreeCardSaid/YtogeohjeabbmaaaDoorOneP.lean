/-
  Layer 27 (order), plain: calls one by one, that came to what the model says.
-/
import Derived.Test.YtogeohjeabbmaaaDoorOrdY
import Derived.Test.YtogeohjeabbmaaaDoorDocW
import Derived.Test.YtogeohjeabbmaaaDoorZj
set_option linter.unusedSimpArgs false
set_option linter.unusedVariables false
set_option maxRecDepth 100000
namespace Go.Proofs.YtogeohjeabbmaaaDoor
open Go.RowKit

def nthD (ms : List Md) (k : Nat) : Md := ms.getD k ⟨0, ⟨0, 0, 0, 0⟩, ⟨0, 0, false⟩, [], 0, 0, 0, []⟩
theorem nthD_map (ms : List Md) (k : Nat) : (nthM (ms.map mkM) k).md = nthD ms k := by
  unfold nthM nthD
  rw [List.getD_eq_getElem?_getD, List.getD_eq_getElem?_getD, List.getElem?_map]
  cases ms[k]? <;> rfl
theorem nthD_left {ms : List Md} {x : Md} {k : Nat} (h : k < ms.length) : nthD (ms ++ [x]) k = nthD ms k := by
  unfold nthD
  rw [List.getD_eq_getElem?_getD, List.getD_eq_getElem?_getD, List.getElem?_append_left h]
theorem nthD_last (ms : List Md) (x : Md) : nthD (ms ++ [x]) ms.length = x := by
  unfold nthD
  rw [List.getD_eq_getElem?_getD, List.getElem?_append_right (Nat.le_refl _), Nat.sub_self]
  rfl
def runM (ms : List Md) : Ps := ms.foldl (fun ps m => stepP m ps) []
theorem runM_snoc (ms : List Md) (x : Md) : runM (ms ++ [x]) = stepP x (runM ms) := by unfold runM; rw [List.foldl_append]; rfl
theorem run_up (ms : List Md) : upB (runM ms) = true := by
  have : ∀ (ms : List Md) (ps : Ps), upB ps = true → upB (ms.foldl (fun ps m => stepP m ps) ps) = true := by
    intro ms
    induction ms with
    | nil => intro ps h; exact h
    | cons a r ih => intro ps h; exact ih _ (up_stepP a h)
  exact this ms [] rfl
theorem run_len (ms : List Md) : (runM ms).length ≤ ms.length := by
  have : ∀ (ms : List Md) (ps : Ps), (ms.foldl (fun ps m => stepP m ps) ps).length ≤ ps.length + ms.length := by
    intro ms
    induction ms with
    | nil => intro ps; exact Nat.le_refl _
    | cons a r ih => intro ps; have := ih (stepP a ps); have := len_stepP a ps; simp only [List.foldl_cons, List.length_cons]; omega
  unfold runM
  simpa using this ms []
/-- What the calls are so far. -/
structure OneI (ms : List Md) (step : Int) : Prop where
  right : ∀ i, i < ms.length → rightM (nthD ms i) = true
  over : ∀ i, i < ms.length → (nthD ms i).over ≠ 0 ∧ (nthD ms i).over < step
  span : ∀ i, i < ms.length → (nthD ms i).began ≤ (nthD ms i).over
  rise : ∀ i j, i < j → j < ms.length → (nthD ms i).over < (nthD ms j).began
  op : ∀ i, i < ms.length → (nthD ms i).call.op ≠ 6
  runs : ∀ i, i < ms.length → goesB (nthD ms i) (runM (ms.take i)) = true
theorem OneI.nil : OneI [] 1 := ⟨fun i h => by simp at h, fun i h => by simp at h, fun i h => by simp at h, fun i j _ h => by simp at h, fun i h => by simp at h, fun i h => by simp at h⟩
theorem OneI.snoc {ms : List Md} {step : Int} (h : OneI ms step) {x : Md} (hr : rightM x = true) (hb : x.began = step) {wd : Int} (hw : 0 ≤ wd) (hs : 0 < step) (ho : x.over = step + wd) (h6 : x.call.op ≠ 6) (ht : goesB x (runM ms) = true) : OneI (ms ++ [x]) (step + wd + 1) := by
  have hl : (ms ++ [x]).length = ms.length + 1 := by simp
  have cs : ∀ i, i < (ms ++ [x]).length → (i < ms.length ∧ nthD (ms ++ [x]) i = nthD ms i) ∨ (i = ms.length ∧ nthD (ms ++ [x]) i = x) := fun i hi => by
    by_cases e : i < ms.length
    · exact .inl ⟨e, nthD_left e⟩
    · obtain rfl : i = ms.length := by omega
      exact .inr ⟨rfl, nthD_last _ _⟩
  refine ⟨fun i hi => ?_, fun i hi => ?_, fun i hi => ?_, fun i j hij hj => ?_, fun i hi => ?_, fun i hi => ?_⟩
  · rcases cs i hi with ⟨h1, h2⟩ | ⟨h1, h2⟩
    · rw [h2]; exact h.right i h1
    · rw [h2]; exact hr
  · rcases cs i hi with ⟨h1, h2⟩ | ⟨h1, h2⟩
    · rw [h2]; have := h.over i h1; exact ⟨this.1, by omega⟩
    · rw [h2]; exact ⟨by omega, by omega⟩
  · rcases cs i hi with ⟨h1, h2⟩ | ⟨h1, h2⟩
    · rw [h2]; exact h.span i h1
    · rw [h2]; omega
  · rcases cs j hj with ⟨h1, h2⟩ | ⟨h1, h2⟩
    · rw [h2, nthD_left (by omega)]; exact h.rise i j hij h1
    · rw [h2, nthD_left (by omega), hb]; exact (h.over i (by omega)).2
  · rcases cs i hi with ⟨h1, h2⟩ | ⟨h1, h2⟩
    · rw [h2]; exact h.op i h1
    · rw [h2]; exact h6
  · rcases cs i hi with ⟨h1, h2⟩ | ⟨h1, h2⟩
    · rw [h2, List.take_append_of_le_length (by omega)]; exact h.runs i h1
    · rw [h2, h1, List.take_left]; exact ht
section
variable {ms : List Md} {step : Int}
theorem OneI.ahead (h : OneI ms step) {i j : Nat} (hij : i < j) (hj : j < ms.length) : aheadM (nthD ms i) (nthD ms j) = true := by
  unfold aheadM
  rw [decide_eq_true (h.over i (by omega)).1, decide_eq_true (h.rise i j hij hj)]
  rfl
theorem OneI.not_ahead (h : OneI ms step) {i j : Nat} (hij : i ≤ j) (hj : j < ms.length) : aheadM (nthD ms j) (nthD ms i) = false := by
  unfold aheadM
  have h1 := h.span i (by omega)
  have h2 := h.span j hj
  have h3 : (nthD ms i).began ≤ (nthD ms j).began := by
    rcases Nat.lt_or_eq_of_le hij with e | e
    · have := h.rise i j e hj; omega
    · rw [e]; omega
  rw [decide_eq_false (by omega : ¬ (nthD ms j).over < (nthD ms i).began), Bool.and_false]
theorem OneI.check (h : OneI ms step) (hf : ms.length ≤ 80) : checkB (ms.map mkM) = true := by
  rw [check_all (fun i hi => by rw [nthD_map]; exact h.right i (by simpa using hi)) (fun i k hi hk hne => ?_)]
  · simpa using hf
  · rw [nthD_map, nthD_map]
    rw [List.length_map] at hi hk
    unfold apartM
    rcases Nat.lt_or_gt_of_ne hne with e | e
    · rw [h.ahead e hk]; simp
    · rw [h.ahead e hi]; simp
theorem OneI.may (h : OneI ms step) {j : Nat} (hj : j < ms.length) : mayB (ms.map mkM) (metR (intsZ (List.range j))) j = true := by
  unfold mayB
  simp only [Bool.and_eq_true, Bool.not_eq_true']
  refine ⟨⟨List.all_eq_true.2 fun i hi => ?_, ?_⟩, ?_⟩
  · have hi := List.mem_range.1 hi
    rw [List.length_map] at hi
    unfold blockB
    rw [nthD_map, nthD_map]
    by_cases e : i < j
    · rw [show metR (intsZ (List.range j)) i = true from decide_eq_true (intsZ_mem.2 (List.mem_range.2 e))]
      rfl
    · rw [h.not_ahead (by omega) hi]; simp
  · exact decide_eq_false fun hm => by have := List.mem_range.1 (intsZ_mem.1 hm); omega
  · rw [nthD_map]; exact decide_eq_false (h.op j hj)
theorem OneI.along (h : OneI ms step) : ∀ q j, j + q = ms.length → alongL (ms.map mkM) (intsZ (List.range' j q)) (metR (intsZ (List.range j))) (runM (ms.take j)) = some (metR (intsZ (List.range ms.length)), runM ms)
  | 0, j, hj => by
    obtain rfl : j = ms.length := by omega
    rw [List.take_length]
    rfl
  | q + 1, j, hj => by
    rw [List.range'_succ]
    show alongL _ ((j : Int) :: intsZ (List.range' (j + 1) q)) _ _ = _
    have hjl : j < ms.length := by omega
    rw [alongL_cons, Int.toNat_natCast, h.may hjl, nthD_map, h.runs j hjl]
    simp only [Bool.and_self, if_true]
    have h1 : markB (metR (intsZ (List.range j))) j = metR (intsZ (List.range (j + 1))) := by
      rw [List.range_succ, intsZ_append]
      exact metR_mark (x := (j : Int)) (by omega)
    have h2 : stepP (nthD ms j) (runM (ms.take j)) = runM (ms.take (j + 1)) := by
      rw [List.take_add_one, List.getElem?_eq_getElem hjl]
      show _ = runM (ms.take j ++ [ms[j]])
      rw [runM_snoc]
      unfold nthD
      rw [List.getD_eq_getElem?_getD, List.getElem?_eq_getElem hjl]
      rfl
    rw [h1, h2]
    exact h.along q (j + 1) (by omega)
theorem metOk_nodup' {n : Nat} : ∀ {r p : List Nat}, (∀ x ∈ r, x < n) → (p ++ r).Nodup → metOk n (intsZ r) (metR (intsZ p)) = true
  | [], p, _, _ => rfl
  | x :: r, p, h, hd => by
    show (decide (0 ≤ (x : Int) ∧ (x : Int) < n) && !metR (intsZ p) (x : Int).toNat && metOk n (intsZ r) (markB (metR (intsZ p)) (x : Int).toNat)) = true
    have hx := h x (List.mem_cons_self ..)
    have hxp : x ∉ p := fun hm => by
      have := (List.nodup_append.1 hd).2.2 x hm x (List.mem_cons_self ..)
      exact this rfl
    rw [decide_eq_true (by omega), metR_mark (by omega), show intsZ p ++ [(x : Int)] = intsZ (p ++ [x]) by rw [intsZ_append]; rfl, metOk_nodup' (fun y hy => h y (List.mem_cons_of_mem _ hy)) (by rw [List.append_assoc]; exact hd)]
    have : metR (intsZ p) (x : Int).toNat = false := by
      rw [Int.toNat_natCast]
      exact decide_eq_false fun hm => hxp (intsZ_mem.1 hm)
    rw [this]; rfl
theorem nodup_metOk {n : Nat} : ∀ {r p : List Nat}, metOk n (intsZ r) (metR (intsZ p)) = true → r.Nodup ∧ ∀ x ∈ r, x ∉ p
  | [], p, _ => ⟨List.nodup_nil, fun x hx => by cases hx⟩
  | x :: r, p, h => by
    replace h : (decide (0 ≤ (x : Int) ∧ (x : Int) < n) && !metR (intsZ p) (x : Int).toNat && metOk n (intsZ r) (markB (metR (intsZ p)) (x : Int).toNat)) = true := h
    simp only [Bool.and_eq_true, Bool.not_eq_true'] at h
    rw [metR_mark (by omega), show intsZ p ++ [(x : Int)] = intsZ (p ++ [x]) by rw [intsZ_append]; rfl] at h
    obtain ⟨h1, h2⟩ := nodup_metOk h.2
    have hxp : x ∉ p := fun hm => by
      have := h.1.2
      rw [Int.toNat_natCast] at this
      exact of_decide_eq_false this (intsZ_mem.2 hm)
    refine ⟨List.nodup_cons.2 ⟨fun hm => h2 x hm (by simp), h1⟩, fun y hy => ?_⟩
    rcases List.mem_cons.1 hy with rfl | hy
    · exact hxp
    · exact fun hm => h2 y hy (List.mem_append.2 (.inl hm))
theorem OneI.behind (h : OneI ms step) (hf : ms.length ≤ 80) : behindL (ms.map mkM) (intsZ (List.range ms.length)) = (0, runM ms) := by
  have hc := h.check hf
  have hok : metOk (ms.map mkM).length (intsZ (List.range ms.length)) noneB = true := by
    rw [← metR_nil, List.length_map]
    exact metOk_nodup' (p := []) (fun x hx => List.mem_range.1 hx) (by rw [List.nil_append]; exact List.nodup_range)
  have ha := h.along ms.length 0 (by omega)
  rw [← List.range_eq_range', List.range_zero, List.take_zero] at ha
  replace ha : alongL (ms.map mkM) (intsZ (List.range ms.length)) noneB [] = some (metR (intsZ (List.range ms.length)), runM ms) := by rw [← metR_nil]; exact ha
  unfold behindL
  rw [if_neg (by rw [hc]; decide), if_neg (by rw [hok]; decide), ha]
  simp only
  rw [if_pos]
  unfold wholeB
  rw [List.all_eq_true]
  intro i hi
  have hi := List.mem_range.1 hi
  rw [List.length_map] at hi
  rw [show metR (intsZ (List.range ms.length)) i = true from decide_eq_true (intsZ_mem.2 (List.mem_range.2 hi))]
  simp
theorem free_row_none {l : List Mm} {i : Nat} (h : ∀ k, i < k → k < l.length → freeB (nthM l i).md (nthM l k).md = false) : ∀ q k, i + 1 + k + q ≤ l.length → freeRow l i q k = []
  | 0, _, _ => rfl
  | q + 1, k, hk => by
    unfold freeRow
    rw [h (i + 1 + k) (by omega) (by omega), free_row_none h q (k + 1) (by omega)]
    rfl
theorem free_from_none {l : List Mm} (h : ∀ i k, i < k → k < l.length → freeB (nthM l i).md (nthM l k).md = false) : ∀ q i, i + q ≤ l.length → freeFrom l q i = []
  | 0, _, _ => rfl
  | q + 1, i, hi => by
    unfold freeFrom
    rw [free_row_none (h i) _ 0 (by omega), free_from_none h q (i + 1) (by omega)]
    rfl
theorem OneI.free (h : OneI ms step) : freeL (ms.map mkM) = [] := by
  unfold freeL
  split
  · refine free_from_none (fun i k hik hk => ?_) _ 0 (by omega)
    rw [List.length_map] at hk
    rw [nthD_map, nthD_map]
    unfold freeB
    rw [h.ahead hik hk]
    rfl
  · rfl
theorem alongD_pair {l : List Mm} {x y : Int} {B : List Int} (hy : y ∈ B) : ∀ {A done : List Int} {ps p : Ps}, alongD l done (A ++ x :: B) ps = some p → aheadM (nthM l y.toNat).md (nthM l x.toNat).md = false
  | [], done, ps, p, h => by
    rw [List.nil_append, alongD_cons] at h
    split at h
    · cases h
    · split at h
      · exact alongD_late h y hy x (by simp)
      · cases h
  | a :: A, done, ps, p, h => by
    rw [List.cons_append, alongD_cons] at h
    split at h
    · cases h
    · split at h
      · exact alongD_pair hy h
      · cases h
/-- Two that stand side by side, turned. -/
theorem OneI.turned (h : OneI ms step) {A B : List Nat} {i : Nat} (hi : i + 1 < ms.length) : (behindL (ms.map mkM) (intsZ (A ++ (i + 1) :: i :: B))).1 ≠ 0 := by
  intro e
  obtain ⟨-, hok, met, ps, ha, -⟩ := behind_zero.1 e
  rw [← metR_nil] at ha
  obtain ⟨-, -, hd⟩ := along_doc (metOk_mem hok) (first_nil _) ha
  rw [intsZ_append] at hd
  have := alongD_pair (l := ms.map mkM) (x := ((i + 1 : Nat) : Int)) (y := ((i : Nat) : Int)) (B := intsZ (i :: B)) (intsZ_mem.2 (List.mem_cons_self ..)) hd
  rw [Int.toNat_natCast, Int.toNat_natCast, nthD_map, nthD_map, h.ahead (by omega) hi] at this
  cases this
theorem OneI.seek (h : OneI ms step) (hf : ms.length ≤ 80) : ∃ r, seekL (ms.map mkM) = some r ∧ r.length = ms.length := by
  have h1 := bears_seek (l := ms.map mkM) (os := intsZ (List.range ms.length)) (by rw [h.behind hf])
  obtain ⟨r, hr⟩ := Option.isSome_iff_exists.1 h1
  refine ⟨r, hr, ?_⟩
  obtain ⟨os, hos, h2, h3, met, ps, ha, hw⟩ := seek_sound hr
  rw [List.nil_append] at hos
  subst hos
  have hd := ha
  rw [← metR_nil] at hd h3
  obtain ⟨rfl, -, -⟩ := along_doc (metOk_mem h3) (first_nil _) hd
  have hn := (nodup_metOk (p := []) h3).1
  have hp : r.Perm (List.range ms.length) := by
    refine (List.perm_ext_iff_of_nodup hn List.nodup_range).2 fun x => ⟨fun hx => List.mem_range.2 (by have := h2 x hx; simpa using this), fun hx => ?_⟩
    have hx := List.mem_range.1 hx
    unfold wholeB at hw
    have := List.all_eq_true.1 hw x (List.mem_range.2 (by simpa using hx))
    rw [nthD_map, decide_eq_true (h.over x hx).1, show rangesM (nthD ms x) = false from decide_eq_false (h.op x hx), List.nil_append] at this
    have h5 : metR (intsZ r) x = true := by simpa using this
    exact intsZ_mem.1 (of_decide_eq_true h5)
  rw [hp.length_eq, List.length_range]
theorem many_all {l : List Mm} (h : ∀ i, i < l.length → (nthM l i).md.call.op ≠ 6) : ∀ k, k ≤ l.length → manyP l k = k
  | 0, _ => rfl
  | k + 1, hk => by rw [manyP_succ, many_all h k (by omega), show rangesM (nthM l k).md = false from decide_eq_false (h k (by omega))]; rfl
theorem OneI.many (h : OneI ms step) : manyP (ms.map mkM) (ms.map mkM).length = ms.length := by
  rw [many_all (fun i hi => by rw [nthD_map]; exact h.op i (by simpa using hi)) _ (Nat.le_refl _), List.length_map]
end
end Go.Proofs.YtogeohjeabbmaaaDoor
