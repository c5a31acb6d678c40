/-
  Layer 27, plain: the document's Behind, Search and ByAt are the program's.
-/
import Derived.Test.YtogeohjeabbmaaaDoorZg
set_option linter.unusedSimpArgs false
set_option linter.unusedVariables false
set_option maxRecDepth 100000
namespace Go.Proofs.YtogeohjeabbmaaaDoor
open Go.RowKit

/-- Those that a row has. -/
def metR (r : List Int) : Nat → Bool := fun i => decide ((i : Int) ∈ r)
theorem metR_nil : metR [] = noneB := by funext i; simp [metR, noneB]
theorem metR_mark {r : List Int} {x : Int} (h : 0 ≤ x) : markB (metR r) x.toNat = metR (r ++ [x]) := by
  funext i
  unfold markB metR
  rw [← Bool.decide_or]
  refine decide_eq_decide.2 ?_
  rw [List.mem_append, List.mem_singleton]
  constructor
  · rintro (h1 | h1)
    · exact .inl h1
    · exact .inr (by omega)
  · rintro (h1 | h1)
    · exact .inl h1
    · exact .inr (by omega)
/-- The document's first loop: each call that has to be there is, and none of all is. -/
def dOneB (l : List Mm) (os : List Int) (i : Nat) : Bool := (rangesM (nthM l i).md && decide ((i : Int) ∈ os)) || (!rangesM (nthM l i).md && decide ((nthM l i).md.over ≠ 0) && !decide ((i : Int) ∈ os))
def dWholeB (l : List Mm) (os : List Int) : Bool := (List.range l.length).all fun i => !dOneB l os i
def lateB (l : List Mm) (done : List Int) (x : Int) : Bool := done.any fun k => aheadM (nthM l x.toNat).md (nthM l k.toNat).md
def alongD (l : List Mm) : List Int → List Int → Ps → Option Ps
  | _, [], ps => some ps
  | done, x :: r, ps => if lateB l done x then none else if goesB (nthM l x.toNat).md ps then alongD l (done ++ [x]) r (stepP (nthM l x.toNat).md ps) else none
theorem alongD_cons (l : List Mm) (done : List Int) (x : Int) (r : List Int) (ps : Ps) : alongD l done (x :: r) ps = if lateB l done x then none else if goesB (nthM l x.toNat).md ps then alongD l (done ++ [x]) r (stepP (nthM l x.toNat).md ps) else none := rfl
def dBehindL (l : List Mm) (os : List Int) : Option Ps := if dWholeB l os then alongD l [] os [] else none
theorem alongD_late {l : List Mm} : ∀ {rest done : List Int} {ps p : Ps}, alongD l done rest ps = some p → ∀ x ∈ rest, ∀ k ∈ done, aheadM (nthM l x.toNat).md (nthM l k.toNat).md = false
  | [], _, _, _, _, x, hx => by cases hx
  | y :: r, done, ps, p, h, x, hx => by
    rw [alongD_cons] at h
    split at h
    · cases h
    · rename_i hn
      split at h
      · intro k hk
        rcases List.mem_cons.1 hx with rfl | hx
        · cases e : aheadM (nthM l x.toNat).md (nthM l k.toNat).md with
          | false => rfl
          | true => exact absurd (List.any_eq_true.2 ⟨k, hk, e⟩) hn
        · exact alongD_late h x hx k (List.mem_append.2 (.inl hk))
      · cases h
/-- None that is left has to stand ahead of those that were met. -/
def FirstB (l : List Mm) (pre : List Int) : Prop := ∀ k ∈ pre, ∀ i, i < l.length → (i : Int) ∉ pre → rangesM (nthM l i).md = false → aheadM (nthM l i).md (nthM l k.toNat).md = false
theorem along_doc {l : List Mm} : ∀ {post pre : List Int} {ps : Ps} {met' : Nat → Bool} {ps' : Ps}, (∀ x ∈ post, 0 ≤ x ∧ x < l.length) → FirstB l pre → alongL l post (metR pre) ps = some (met', ps') →
    met' = metR (pre ++ post) ∧ (∀ x ∈ post, rangesM (nthM l x.toNat).md = false) ∧ alongD l pre post ps = some ps'
  | [], pre, ps, met', ps', _, _, h => by
    have : (metR pre, ps) = (met', ps') := by injection h
    injection this with h1 h2
    exact ⟨by rw [← h1, List.append_nil], (by intro x hx; cases hx), by rw [← h2]; rfl⟩
  | x :: r, pre, ps, met', ps', hin, hI, h => by
    rw [alongL_cons] at h
    split at h
    · rename_i hmg
      rw [Bool.and_eq_true] at hmg
      obtain ⟨hm, hg⟩ := hmg
      have hx := hin x (List.mem_cons_self ..)
      unfold mayB at hm
      simp only [Bool.and_eq_true, Bool.not_eq_true'] at hm
      obtain ⟨⟨hb, hun⟩, hr⟩ := hm
      rw [metR_mark hx.1] at h
      have hxn : x ∉ pre := by
        have := of_decide_eq_false hun
        rwa [Int.toNat_of_nonneg hx.1] at this
      have hI' : FirstB l (pre ++ [x]) := by
        intro k hk i hi hni hri
        rw [List.mem_append, List.mem_singleton] at hk hni
        rcases hk with hk | rfl
        · exact hI k hk i hi (fun h => hni (.inl h)) hri
        · have h0 := List.all_eq_true.1 hb i (List.mem_range.2 hi)
          unfold blockB at h0
          have h1 : metR pre i = false := decide_eq_false (fun h => hni (.inl h))
          have h2 : decide (i ≠ k.toNat) = true := decide_eq_true (fun e => hni (.inr (by omega)))
          rw [hri, h1, h2] at h0
          simpa using h0
      obtain ⟨h1, h2, h3⟩ := along_doc (fun y hy => hin y (List.mem_cons_of_mem _ hy)) hI' h
      refine ⟨by rw [h1, List.append_assoc]; rfl, ?_, ?_⟩
      · intro y hy
        rcases List.mem_cons.1 hy with rfl | hy
        · exact hr
        · exact h2 y hy
      · have hl : lateB l pre x = false := by
          unfold lateB
          rw [List.any_eq_false]
          intro k hk
          have := hI k hk x.toNat (by omega) (by rwa [Int.toNat_of_nonneg hx.1]) hr
          rw [this]; simp
        rw [alongD_cons, hl, hg]
        exact h3
    · cases h
theorem dOne_not {l : List Mm} {os : List Int} (h : dWholeB l os = true) {i : Nat} (hi : i < l.length) : dOneB l os i = false := by
  have := List.all_eq_true.1 h i (List.mem_range.2 hi)
  simpa using this
theorem doc_along {l : List Mm} {os : List Int} (hw : dWholeB l os = true) : ∀ {post pre : List Int} {ps ps' : Ps}, pre ++ post = os → metOk l.length post (metR pre) = true → alongD l pre post ps = some ps' → alongL l post (metR pre) ps = some (metR os, ps')
  | [], pre, ps, ps', he, _, h => by
    rw [List.append_nil] at he
    subst he
    have : ps = ps' := by injection h
    rw [this]; rfl
  | x :: r, pre, ps, ps', he, hok, h => by
    unfold metOk at hok
    simp only [Bool.and_eq_true, decide_eq_true_eq, Bool.not_eq_true'] at hok
    obtain ⟨⟨hx, hun⟩, hok⟩ := hok
    rw [metR_mark hx.1] at hok
    rw [alongD_cons] at h
    split at h
    · cases h
    · rename_i hna
      split at h
      · rename_i hg
        have hlate := alongD_late h
        have hmay : mayB l (metR pre) x.toNat = true := by
          unfold mayB
          simp only [Bool.and_eq_true, Bool.not_eq_true']
          refine ⟨⟨List.all_eq_true.2 fun i hi => ?_, hun⟩, ?_⟩
          · have hi := List.mem_range.1 hi
            cases hbk : blockB l (metR pre) x.toNat i with
            | false => rfl
            | true =>
              exfalso
              unfold blockB at hbk
              simp only [Bool.and_eq_true, Bool.not_eq_true', decide_eq_true_eq] at hbk
              obtain ⟨⟨⟨hu, hne⟩, hri⟩, hah⟩ := hbk
              have hov : (nthM l i).md.over ≠ 0 := by
                unfold aheadM at hah
                simp only [Bool.and_eq_true, decide_eq_true_eq] at hah
                exact hah.1
              have hio : (i : Int) ∈ os := by
                have := dOne_not hw hi
                unfold dOneB at this
                rw [hri, decide_eq_true hov] at this
                simpa using this
              have hip : (i : Int) ∉ pre := of_decide_eq_false hu
              rw [← he, List.mem_append, List.mem_cons] at hio
              rcases hio with h1 | h1 | h1
              · exact hip h1
              · exact hne (by omega)
              · have := hlate i h1 x (by simp)
                rw [Int.toNat_natCast] at this
                rw [this] at hah
                cases hah
          · cases hr : rangesM (nthM l x.toNat).md with
            | false => rfl
            | true =>
              have := dOne_not hw (i := x.toNat) (by omega)
              unfold dOneB at this
              rw [hr, Int.toNat_of_nonneg hx.1, decide_eq_true (by rw [← he]; simp)] at this
              simp at this
        rw [alongL_cons, if_pos (by rw [hmay, hg]; rfl), metR_mark hx.1]
        exact doc_along hw (post := r) (pre := pre ++ [x]) (by rw [← he]; simp) hok h
      · cases h
theorem whole_doc {l : List Mm} {os : List Int} (hall : ∀ x ∈ os, rangesM (nthM l x.toNat).md = false) : wholeB l (metR os) = dWholeB l os := by
  unfold wholeB dWholeB
  congr 1
  funext i
  unfold dOneB metR
  by_cases h : (i : Int) ∈ os
  · have := hall _ h
    rw [Int.toNat_natCast] at this
    simp [h, this]
  · cases hr : rangesM (nthM l i).md <;> simp [h]
theorem first_nil (l : List Mm) : FirstB l [] := fun k hk => by cases hk
theorem behind_iff {l : List Mm} {os : List Int} {ps : Ps} (hok : metOk l.length os noneB = true) : dBehindL l os = some ps ↔ ∃ met, alongL l os noneB [] = some (met, ps) ∧ wholeB l met = true := by
  have hin := metOk_mem hok
  constructor
  · intro h
    unfold dBehindL at h
    split at h
    · rename_i hw
      have h1 := doc_along hw (post := os) (pre := []) rfl (by rw [metR_nil]; exact hok) h
      obtain ⟨h2, h3, -⟩ := along_doc hin (first_nil l) h1
      rw [metR_nil] at h1
      exact ⟨_, h1, by rw [whole_doc h3]; exact hw⟩
    · cases h
  · rintro ⟨met, ha, hw⟩
    rw [← metR_nil] at ha
    obtain ⟨rfl, h3, h4⟩ := along_doc hin (first_nil l) ha
    rw [List.nil_append, whole_doc h3] at hw
    unfold dBehindL
    rw [if_pos hw]
    exact h4
theorem behindL_doc {l : List Mm} {os : List Int} (hc : checkB l = true) (hok : metOk l.length os noneB = true) : behindL l os = match dBehindL l os with
    | some ps => (0, ps)
    | none => (371, []) := by
  unfold behindL
  rw [if_neg (by rw [hc]; decide), if_neg (by rw [hok]; decide)]
  cases h : dBehindL l os with
  | some ps =>
    obtain ⟨met, ha, hw⟩ := (behind_iff hok).1 h
    rw [ha]
    simp only
    rw [if_pos hw]
  | none =>
    cases ha : alongL l os noneB [] with
    | none => rfl
    | some p =>
      obtain ⟨met, ps⟩ := p
      simp only
      by_cases hw : wholeB l met = true
      · have := (behind_iff hok).2 ⟨met, ha, hw⟩
        rw [h] at this
        cases this
      · rw [if_neg hw]
/-! ### Search -/
def beginsB (l : List Mm) (os : List Int) : Bool := (os.all fun x => !rangesM (nthM l x.toNat).md) && (alongD l [] os []).isSome
def dSeekF (l : List Mm) : Nat → List Nat → Option (List Nat)
  | 0, row => if beginsB l (intsZ row) then (if (dBehindL l (intsZ row)).isSome then some row else none) else none
  | f + 1, row => if beginsB l (intsZ row) then (if (dBehindL l (intsZ row)).isSome then some row else (List.range' 0 l.length).findSome? fun n => if n ∈ row then none else dSeekF l f (row ++ [n])) else none
theorem findSome_congr {α β : Type} {f g : α → Option β} : ∀ {l : List α}, (∀ x ∈ l, f x = g x) → l.findSome? f = l.findSome? g
  | [], _ => rfl
  | x :: r, h => by
    rw [List.findSome?_cons, List.findSome?_cons, h x (List.mem_cons_self ..), findSome_congr fun y hy => h y (List.mem_cons_of_mem _ hy)]
theorem alongL_append (l : List Mm) : ∀ (a b : List Int) (met : Nat → Bool) (ps : Ps), alongL l (a ++ b) met ps = (alongL l a met ps).bind fun q => alongL l b q.1 q.2
  | [], b, met, ps => rfl
  | x :: r, b, met, ps => by
    rw [List.cons_append, alongL_cons, alongL_cons]
    split
    · exact alongL_append l r b _ _
    · rfl
theorem metOk_append (n : Nat) : ∀ (a b p : List Int), metOk n (a ++ b) (metR p) = (metOk n a (metR p) && metOk n b (metR (p ++ a)))
  | [], b, p => by rw [List.append_nil]; rfl
  | x :: r, b, p => by
    show (decide (0 ≤ x ∧ x < n) && !metR p x.toNat && metOk n (r ++ b) (markB (metR p) x.toNat)) = (decide (0 ≤ x ∧ x < n) && !metR p x.toNat && metOk n r (markB (metR p) x.toNat) && metOk n b (metR (p ++ x :: r)))
    by_cases h : 0 ≤ x ∧ x < n
    · rw [metR_mark h.1, metOk_append n r b, List.append_assoc, ← Bool.and_assoc]
      rfl
    · rw [decide_eq_false h]; rfl
theorem intsZ_append (a b : List Nat) : intsZ (a ++ b) = intsZ a ++ intsZ b := List.map_append ..
theorem intsZ_mem {r : List Nat} {n : Nat} : (n : Int) ∈ intsZ r ↔ n ∈ r := by
  unfold intsZ
  rw [List.mem_map]
  constructor
  · rintro ⟨a, ha, e⟩
    obtain rfl : a = n := by omega
    exact ha
  · exact fun h => ⟨n, h, rfl⟩
theorem metOk_snoc {l : List Mm} {row : List Nat} {n : Nat} (hok : metOk l.length (intsZ row) noneB = true) (hn : n < l.length) (hnr : n ∉ row) : metOk l.length (intsZ (row ++ [n])) noneB = true := by
  rw [intsZ_append, ← metR_nil, metOk_append, metR_nil, hok, List.nil_append]
  show (true && (decide (0 ≤ (n : Int) ∧ (n : Int) < l.length) && !metR (intsZ row) (n : Int).toNat && true)) = true
  have h1 : metR (intsZ row) (n : Int).toNat = false := by
    rw [Int.toNat_natCast]
    exact decide_eq_false fun h => hnr (intsZ_mem.1 h)
  rw [h1, decide_eq_true (by omega)]
  rfl
theorem dSeek_sound {l : List Mm} : ∀ {f : Nat} {row r : List Nat}, dSeekF l f row = some r → metOk l.length (intsZ row) noneB = true → ∃ os, r = row ++ os ∧ metOk l.length (intsZ r) noneB = true ∧ (dBehindL l (intsZ r)).isSome = true := by
  intro f
  induction f with
  | zero =>
    intro row r h hok
    unfold dSeekF at h
    split at h
    · split at h
      · rename_i hb
        injection h with h
        subst h
        exact ⟨[], by simp, hok, hb⟩
      · cases h
    · cases h
  | succ f ih =>
    intro row r h hok
    unfold dSeekF at h
    split at h
    · split at h
      · rename_i hb
        injection h with h
        subst h
        exact ⟨[], by simp, hok, hb⟩
      · obtain ⟨n, hn, hs⟩ := List.exists_of_findSome?_eq_some h
        have hnl : n < l.length := by have := List.mem_range'_1.1 hn; omega
        split at hs
        · cases hs
        · rename_i hnr
          obtain ⟨os, rfl, h1, h2⟩ := ih hs (metOk_snoc hok hnl hnr)
          exact ⟨[n] ++ os, by simp, h1, h2⟩
    · cases h
theorem seek_doc {l : List Mm} : ∀ {f : Nat} {row : List Nat} {met : Nat → Bool} {ps : Ps}, metOk l.length (intsZ row) noneB = true → alongL l (intsZ row) noneB [] = some (met, ps) → seekF l f met ps row = dSeekF l f row := by
  intro f
  have base : ∀ {row : List Nat} {met : Nat → Bool} {ps : Ps}, metOk l.length (intsZ row) noneB = true → alongL l (intsZ row) noneB [] = some (met, ps) → beginsB l (intsZ row) = true ∧ (dBehindL l (intsZ row)).isSome = wholeB l met ∧ met = metR (intsZ row) := by
    intro row met ps hok ha
    have ha' := ha
    rw [← metR_nil] at ha'
    obtain ⟨h1, h2, h3⟩ := along_doc (metOk_mem hok) (first_nil l) ha'
    refine ⟨?_, ?_, h1⟩
    · unfold beginsB
      rw [h3]
      simp only [Option.isSome_some, Bool.and_true]
      rw [List.all_eq_true]
      intro x hx
      rw [h2 x hx]; rfl
    · cases hw : wholeB l met with
      | true =>
        rw [(behind_iff hok).2 ⟨met, ha, hw⟩]
        rfl
      | false =>
        cases hd : dBehindL l (intsZ row) with
        | none => rfl
        | some q =>
          obtain ⟨m2, h4, h5⟩ := (behind_iff hok).1 hd
          rw [ha] at h4
          injection h4 with h4
          injection h4 with h4 _
          rw [← h4, hw] at h5
          cases h5
  induction f with
  | zero =>
    intro row met ps hok ha
    obtain ⟨h1, h2, -⟩ := base hok ha
    unfold seekF dSeekF
    rw [if_pos h1, h2]
  | succ f ih =>
    intro row met ps hok ha
    obtain ⟨h1, h2, h3⟩ := base hok ha
    unfold seekF dSeekF
    rw [if_pos h1, h2]
    congr 1
    refine findSome_congr fun n hn => ?_
    have hnl : n < l.length := by have := List.mem_range'_1.1 hn; omega
    have hstep : alongL l (intsZ (row ++ [n])) noneB [] = if mayB l met n && goesB (nthM l n).md ps then some (markB met n, stepP (nthM l n).md ps) else none := by
      rw [intsZ_append, alongL_append, ha]
      show alongL l [(n : Int)] met ps = _
      rw [alongL_cons, Int.toNat_natCast]
      rfl
    by_cases hnr : n ∈ row
    · rw [if_pos hnr, if_neg]
      intro h
      rw [Bool.and_eq_true] at h
      have := may_not h.1
      rw [h3] at this
      exact of_decide_eq_false this (intsZ_mem.2 hnr)
    · rw [if_neg hnr]
      have hok2 := metOk_snoc hok hnl hnr
      split
      · rename_i hmg
        rw [if_pos hmg] at hstep
        exact ih hok2 hstep
      · rename_i hmg
        rw [if_neg hmg] at hstep
        cases hd : dSeekF l f (row ++ [n]) with
        | none => rfl
        | some r =>
          obtain ⟨os, rfl, h4, h5⟩ := dSeek_sound hd hok2
          obtain ⟨q, hq⟩ := Option.isSome_iff_exists.1 h5
          obtain ⟨m2, h6, -⟩ := (behind_iff h4).1 hq
          rw [intsZ_append (row ++ [n]) os, alongL_append, hstep] at h6
          cases h6
theorem seekL_doc (l : List Mm) : seekL l = dSeekF l l.length [] := seek_doc (f := l.length) (row := []) (met := noneB) (ps := []) rfl rfl
/-! ### By At -/
def dPos (l : List Mm) (out : List Nat) (a : Int) : Nat := (out.takeWhile fun x => decide (atK l x ≤ a)).length
def dIns (l : List Mm) (out : List Nat) (n : Nat) : List Nat := out.take (dPos l out (atK l n)) ++ n :: out.drop (dPos l out (atK l n))
def dByAt (l : List Mm) : Nat → List Nat
  | 0 => []
  | j + 1 => if candB (nthM l j).md then dIns l (dByAt l j) j else dByAt l j
theorem dIns_split (l : List Mm) (out : List Nat) (n : Nat) : dIns l out n = (out.takeWhile fun x => decide (atK l x ≤ atK l n)) ++ n :: (out.dropWhile fun x => decide (atK l x ≤ atK l n)) := by
  unfold dIns dPos
  generalize (fun x => decide (atK l x ≤ atK l n)) = p
  have h := List.takeWhile_append_dropWhile (p := p) (l := out)
  have h1 : out.take (out.takeWhile p).length = out.takeWhile p := by
    conv => lhs; arg 2; rw [← h]
    exact List.take_left
  have h2 : out.drop (out.takeWhile p).length = out.dropWhile p := by
    conv => lhs; arg 2; rw [← h]
    exact List.drop_left
  rw [h1, h2]
theorem dByAt_perm (l : List Mm) : ∀ j, (dByAt l j).Perm (candK l j)
  | 0 => List.Perm.refl _
  | j + 1 => by
    rw [candK_succ]
    unfold dByAt
    split
    · refine List.Perm.trans ?_ (List.Perm.append_right _ (dByAt_perm l j))
      rw [dIns_split]
      refine List.Perm.trans List.perm_middle ?_
      rw [List.takeWhile_append_dropWhile]
      exact (List.perm_append_comm (l₁ := [j])).symm.symm
    · rw [List.append_nil]; exact dByAt_perm l j
theorem dByAt_lt {l : List Mm} {j x : Nat} (h : x ∈ dByAt l j) : x < j := candK_lt ((dByAt_perm l j).mem_iff.1 h)
theorem dropWhile_head {α : Type} {p : α → Bool} : ∀ {l : List α} {x : α} {r : List α}, l.dropWhile p = x :: r → p x = false
  | [], x, r, h => by cases h
  | y :: s, x, r, h => by
    rw [List.dropWhile_cons] at h
    split at h
    · exact dropWhile_head h
    · rename_i hn
      injection h with h1 _
      rw [← h1]
      simpa using hn
theorem takeWhile_mem {α : Type} {p : α → Bool} : ∀ {l : List α} {x : α}, x ∈ l.takeWhile p → p x = true
  | [], x, h => by cases h
  | y :: s, x, h => by
    rw [List.takeWhile_cons] at h
    split at h
    · rename_i hy
      rcases List.mem_cons.1 h with rfl | h
      · exact hy
      · exact takeWhile_mem h
    · cases h
theorem dByAt_srt (l : List Mm) : ∀ j, Srt (atK l) (dByAt l j)
  | 0 => List.Pairwise.nil
  | j + 1 => by
    unfold dByAt
    split
    · have hS := dByAt_srt l j
      have hlt := fun x (hx : x ∈ dByAt l j) => dByAt_lt hx
      rw [dIns_split]
      generalize dByAt l j = out at hS hlt
      rw [← List.takeWhile_append_dropWhile (p := fun x => decide (atK l x ≤ atK l j)) (l := out)] at hS hlt
      have hT : ∀ x ∈ out.takeWhile (fun x => decide (atK l x ≤ atK l j)), atK l x ≤ atK l j := fun x hx => of_decide_eq_true (p := atK l x ≤ atK l j) (takeWhile_mem (p := fun x => decide (atK l x ≤ atK l j)) hx)
      have hD := @dropWhile_head _ (fun x => decide (atK l x ≤ atK l j)) out
      generalize out.takeWhile (fun x => decide (atK l x ≤ atK l j)) = T at hS hlt hT
      generalize out.dropWhile (fun x => decide (atK l x ≤ atK l j)) = D at hS hlt hD
      obtain ⟨s1, s2, s3⟩ := List.pairwise_append.1 hS
      have hD2 : ∀ x ∈ D, atK l j < atK l x := by
        cases D with
        | nil => intro x hx; cases hx
        | cons d r =>
          have h1 : atK l j < atK l d := by have := hD rfl; simp at this; omega
          intro x hx
          rcases List.mem_cons.1 hx with rfl | hx
          · exact h1
          · have := (List.pairwise_cons.1 s2).1 x hx
            unfold ltK at this
            omega
      refine List.pairwise_append.2 ⟨s1, List.pairwise_cons.2 ⟨fun x hx => .inl (hD2 x hx), s2⟩, fun x hx y hy => ?_⟩
      rcases List.mem_cons.1 hy with rfl | hy
      · have h1 := hT x hx
        have h2 := hlt x (List.mem_append.2 (.inl hx))
        unfold ltK
        omega
      · exact s3 x hx y hy
    · exact dByAt_srt l j
theorem dByAt_eq {l : List Mm} {C : List Nat} (hp : C.Perm (candK l l.length)) (hs : Srt (atK l) C) : C = dByAt l l.length := Srt.unique hs (dByAt_srt l _) (hp.trans (dByAt_perm l _).symm)
theorem dByAt_nodup (l : List Mm) (j : Nat) : (dByAt l j).Nodup := (dByAt_perm l j).nodup_iff.2 ((candK_rise l j).imp fun h => Nat.ne_of_lt h)
end Go.Proofs.YtogeohjeabbmaaaDoor
