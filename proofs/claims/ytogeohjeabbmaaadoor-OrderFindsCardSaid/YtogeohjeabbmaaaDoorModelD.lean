/-
  Package model and the document: answers compared; the document's Get.
-/
import Derived.Test.YtogeohjeabbmaaaDoorModelC
set_option linter.unusedSimpArgs false
set_option linter.unusedVariables false
set_option maxRecDepth 100000
namespace Go.Proofs.YtogeohjeabbmaaaDoor
open Go.RowKit

theorem malike_any (x y : An) (sp sp' : Option Addr) (n n' cap cap' : Nat) (a b : Ps) (w : World) (ha : SlK w 2 sp n (prs a)) (hb : SlK w 2 sp' n' (prs b)) :
    Calls Tryd.prog 78 #[.agg (anA x sp n cap), .agg (anA y sp' n' cap')] w fun e w' => e = .returned (.bool (alikeB x y a b)) ∧ Below w.heap.size w w' := by
  obtain ⟨e1, v1, d1⟩ := x
  obtain ⟨e2, v2, d2⟩ := y
  have hB : Below w.heap.size w ((w.alloc (.cells (anA ⟨e1, v1, d1⟩ sp n cap) 34)).alloc (.cells (anA ⟨e2, v2, d2⟩ sp' n' cap') 34)) := ((Below.refl _ _).alloc (Nat.le_refl _) _).alloc (by simp) _
  simp only [anA] at hB ⊢
  have ha'h := Lib.hid ha
  have hb'h := Lib.hid hb
  have hB'h := Lib.hid hB
  clear ha hb hB
  by_cases h1 : e1 = e2
  · subst h1
    by_cases h2 : v1 = v2
    · subst h2
      by_cases h3 : d1 = d2
      · subst h3
        have hr : alikeB ⟨e1, v1, d1⟩ ⟨e1, v1, d1⟩ a b = decide (a = b) := by unfold alikeB; simp
        rw [hr]
        clear hr
        have t1 : (e1 == e1) = true := by simp
        have t2 := show (((v1 : Int)) == (v1 : Int)) = true by simp
        have t3 : (d1 == d1) = true := by simp
        go_enter Tryd.func78, Tryd.ntmps78
        go_wp2_with (go_at_call 32; refine (equalP_any _ _ _ _ _ _ a b _ (ha'h.out.below hB'h.out) (hb'h.out.below hB'h.out)).mono ?_; rintro e w2 ⟨rfl, d, rfl⟩)
        go_ret
        exact ⟨rfl, hB'h.out.trans (below_drewN' _ _)⟩
      · have hr : alikeB ⟨e1, v1, d1⟩ ⟨e1, v1, d2⟩ a b = false := by unfold alikeB; simp [h3]
        rw [hr]
        clear hr
        have t1 : (e1 == e1) = true := by simp
        have t2 := show (((v1 : Int)) == (v1 : Int)) = true by simp
        have t3 : (d1 == d2) = false := by simpa using h3
        have h3'h := Lib.hid h3
        clear h3
        go_enter Tryd.func78, Tryd.ntmps78
        go_wp2
        go_ret
        exact ⟨rfl, hB'h.out⟩
    · have hr : alikeB ⟨e1, v1, d1⟩ ⟨e1, v2, d2⟩ a b = false := by unfold alikeB; simp [h2]
      rw [hr]
      clear hr
      have t1 : (e1 == e1) = true := by simp
      have t2 := show (((v1 : Int)) == (v2 : Int)) = false by simp; omega
      have h2'h := Lib.hid h2
      clear h2
      go_enter Tryd.func78, Tryd.ntmps78
      go_wp2
      go_ret
      exact ⟨rfl, hB'h.out⟩
  · have hr : alikeB ⟨e1, v1, d1⟩ ⟨e2, v2, d2⟩ a b = false := by unfold alikeB; simp [h1]
    rw [hr]
    clear hr
    have t1 : (e1 == e2) = false := by simpa using h1
    have h1'h := Lib.hid h1
    clear h1
    go_enter Tryd.func78, Tryd.ntmps78
    go_wp2
    go_ret
    exact ⟨rfl, hB'h.out⟩
theorem ralike_any (x y : An) (sp sp' : Option Addr) (n n' cap cap' : Nat) (a b : Ps) (w : World) (ha : SlK w 2 sp n (prs a)) (hb : SlK w 2 sp' n' (prs b)) :
    Calls Tryd.prog 43 #[.agg (anA x sp n cap), .agg (anA y sp' n' cap')] w fun e w' => e = .returned (.bool (alikeB x y a b)) ∧ Below w.heap.size w w' := by
  obtain ⟨e1, v1, d1⟩ := x
  obtain ⟨e2, v2, d2⟩ := y
  have hB : Below w.heap.size w ((w.alloc (.cells (anA ⟨e1, v1, d1⟩ sp n cap) 34)).alloc (.cells (anA ⟨e2, v2, d2⟩ sp' n' cap') 34)) := ((Below.refl _ _).alloc (Nat.le_refl _) _).alloc (by simp) _
  simp only [anA] at hB ⊢
  have ha'h := Lib.hid ha
  have hb'h := Lib.hid hb
  have hB'h := Lib.hid hB
  clear ha hb hB
  by_cases h1 : e1 = e2
  · subst h1
    by_cases h2 : v1 = v2
    · subst h2
      by_cases h3 : d1 = d2
      · subst h3
        have hr : alikeB ⟨e1, v1, d1⟩ ⟨e1, v1, d1⟩ a b = decide (a = b) := by unfold alikeB; simp
        rw [hr]
        clear hr
        have t1 : (e1 == e1) = true := by simp
        have t2 := show (((v1 : Int)) == (v1 : Int)) = true by simp
        have t3 : (d1 == d1) = true := by simp
        go_enter Tryd.func43, Tryd.ntmps43
        go_wp2_with (go_at_call 67; refine (rpairs_any _ _ _ _ _ _ a b _ (ha'h.out.below hB'h.out) (hb'h.out.below hB'h.out)).mono ?_; rintro e w2 ⟨rfl, hb2⟩)
        go_ret
        exact ⟨rfl, below_next hB'h.out hb2⟩
      · have hr : alikeB ⟨e1, v1, d1⟩ ⟨e1, v1, d2⟩ a b = false := by unfold alikeB; simp [h3]
        rw [hr]
        clear hr
        have t1 : (e1 == e1) = true := by simp
        have t2 := show (((v1 : Int)) == (v1 : Int)) = true by simp
        have t3 : (d1 == d2) = false := by simpa using h3
        have h3'h := Lib.hid h3
        clear h3
        go_enter Tryd.func43, Tryd.ntmps43
        go_wp2
        go_ret
        exact ⟨rfl, hB'h.out⟩
    · have hr : alikeB ⟨e1, v1, d1⟩ ⟨e1, v2, d2⟩ a b = false := by unfold alikeB; simp [h2]
      rw [hr]
      clear hr
      have t1 : (e1 == e1) = true := by simp
      have t2 := show (((v1 : Int)) == (v2 : Int)) = false by simp; omega
      have h2'h := Lib.hid h2
      clear h2
      go_enter Tryd.func43, Tryd.ntmps43
      go_wp2
      go_ret
      exact ⟨rfl, hB'h.out⟩
  · have hr : alikeB ⟨e1, v1, d1⟩ ⟨e2, v2, d2⟩ a b = false := by unfold alikeB; simp [h1]
    rw [hr]
    clear hr
    have t1 : (e1 == e2) = false := by simpa using h1
    have h1'h := Lib.hid h1
    clear h1
    go_enter Tryd.func43, Tryd.ntmps43
    go_wp2
    go_ret
    exact ⟨rfl, hB'h.out⟩
theorem findP_at {ps : Ps} {k q : Nat} (hk : k < ps.length) (hno : ∀ j, j < k → (nthP ps j).1 ≠ q) (h : (nthP ps k).1 = q) : findP ps q = some (nthP ps k).2 := by
  unfold findP
  induction ps generalizing k with
  | nil => simp at hk
  | cons p l ih =>
    rw [List.find?_cons]
    cases k with
    | zero =>
      have e : decide (p.1 = q) = true := decide_eq_true h
      rw [e]; rfl
    | succ k =>
      have e : decide (p.1 = q) = false := decide_eq_false (hno 0 (by omega))
      rw [e]
      exact ih (by simpa using hk) (fun j hj => hno (j + 1) (by omega)) h
theorem findP_none {ps : Ps} {q : Nat} (hno : ∀ j, j < ps.length → (nthP ps j).1 ≠ q) : findP ps q = none := by
  unfold findP
  rw [List.find?_eq_none.2, Option.map_none]
  intro p hp
  obtain ⟨j, hj, rfl⟩ := List.mem_iff_getElem.1 hp
  rw [nthP_eq hj]
  simpa using hno j hj
end Go.Proofs.YtogeohjeabbmaaaDoor
