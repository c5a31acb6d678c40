/-
  The document's answer for layer 3: what calls take; may a call be, and a script?
-/
import Derived.Test.YtogeohjeabbmaaaDoorScrD
set_option linter.unusedSimpArgs false
set_option linter.unusedVariables false
set_option maxRecDepth 100000
namespace Go.Proofs.YtogeohjeabbmaaaDoor
open Go.RowKit

theorem dtakes_any (op : Int) (w : World) : Calls Tryd.prog 81 #[.int .i64 op] w fun e w' => e = .returned (.int .i64 (takesI op)) ∧ w' = w := by
  by_cases h : 1 ≤ op ∧ op ≤ 7
  · have h7 : op = 1 ∨ op = 2 ∨ op = 3 ∨ op = 4 ∨ op = 5 ∨ op = 6 ∨ op = 7 := by omega
    rcases h7 with rfl | rfl | rfl | rfl | rfl | rfl | rfl <;> clear h <;>
    · go_enter Tryd.func81, Tryd.ntmps81
      go_wp2
      go_ret
      exact ⟨rfl, rfl⟩
  · have h1 : (op == 1) = false := by simp; omega
    have h2 : (op == 2) = false := by simp; omega
    have h3 : (op == 3) = false := by simp; omega
    have h4 : (op == 4) = false := by simp; omega
    have h5 : (op == 5) = false := by simp; omega
    have h6 : (op == 6) = false := by simp; omega
    have h7 : (op == 7) = false := by simp; omega
    have ht : takesI op = -1 := by
      unfold takesI
      by_cases h0 : op < 0 ∨ 8 ≤ op
      · rw [if_pos h0]
      · have : op = 0 := by omega
        subst this
        rfl
    rw [ht]
    clear h ht
    go_enter Tryd.func81, Tryd.ntmps81
    go_wp2
    go_ret
    exact ⟨rfl, rfl⟩
theorem rightC_neg {c : Cal} (h : takesI c.op = -1) : rightC c = false := by unfold rightC; rw [h]; rfl
theorem rightC_0 {c : Cal} (h : takesI c.op = 0) : rightC c = (decide (c.key = 0) && (decide (c.a = 0) && decide (c.b = 0))) := by unfold rightC wordsC; rw [h]; simp; rfl
theorem rightC_1 {c : Cal} (h : takesI c.op = 1) : rightC c = (decide (c.a = 0) && decide (c.b = 0)) := by unfold rightC wordsC; rw [h]; simp; rfl
theorem rightC_2 {c : Cal} (h : takesI c.op = 2) : rightC c = decide (c.b = 0) := by unfold rightC wordsC; rw [h]; simp; rfl
theorem rightC_3 {c : Cal} (h : takesI c.op = 3) : rightC c = true := by unfold rightC wordsC; rw [h]; simp
theorem takesI_five (op : Int) : takesI op = -1 ∨ takesI op = 0 ∨ takesI op = 1 ∨ takesI op = 2 ∨ takesI op = 3 := by have := takesI_range op; omega
theorem zero_or (n : Nat) : n = 0 ∨ ((((n : Int) == 0) = false) ∧ ¬ ((n : Int) = 0) ∧ decide (n = 0) = false) := by
  by_cases h : n = 0
  · exact .inl h
  · exact .inr ⟨by simp; omega, by omega, by simp [h]⟩
theorem dcall_any (c : Cal) (w : World) : Calls Tryd.prog 65 #[.agg (calA c)] w fun e w' => e = .returned (.bool (rightC c)) ∧ Below w.heap.size w w' := by
  have T := dtakes_any c.op (w.alloc (.cells (calA c) 31))
  have hB : Below w.heap.size w (w.alloc (.cells (calA c) 31)) := (Below.refl _ _).alloc (Nat.le_refl _) _
  obtain ⟨r, hr⟩ : ∃ r, r = rightC c := ⟨_, rfl⟩
  rw [← hr]
  have h5 := takesI_five c.op
  have r1 := fun h => hr.trans (rightC_neg (c := c) h)
  have r2 := fun h => hr.trans (rightC_0 (c := c) h)
  have r3 := fun h => hr.trans (rightC_1 (c := c) h)
  have r4 := fun h => hr.trans (rightC_2 (c := c) h)
  have r5 := fun h => hr.trans (rightC_3 (c := c) h)
  clear hr
  obtain ⟨op, key, a, b⟩ := c
  simp only [calA] at *
  obtain ⟨t, ht⟩ : ∃ t, t = takesI op := ⟨_, rfl⟩
  rw [← ht] at T h5 r1 r2 r3 r4 r5
  clear ht
  rcases h5 with rfl | rfl | rfl | rfl | rfl
  · have e := r1 rfl
    subst e
    clear r1 r2 r3 r4 r5
    have T'h := Lib.hid T
    have hB'h := Lib.hid hB
    clear T hB
    go_enter Tryd.func65, Tryd.ntmps65
    go_wp2_with fail
    refine T'h.out.mono ?_
    rintro e w7 ⟨rfl, hw7⟩
    obtain rfl := hw7.symm
    go_wp2
    go_ret
    exact ⟨rfl, hB'h.out⟩
  · have e := r2 rfl
    clear r1 r2 r3 r4 r5
    rcases zero_or key with rfl | ⟨k1, k2, k3⟩
    · rcases zero_or a with rfl | ⟨k1, k2, k3⟩
      · rcases zero_or b with rfl | ⟨k1, k2, k3⟩
        · obtain rfl : r = true := by rw [e]; rfl
          clear e
          have T'h := Lib.hid T
          have hB'h := Lib.hid hB
          clear T hB
          go_enter Tryd.func65, Tryd.ntmps65
          go_wp2_with fail
          refine T'h.out.mono ?_
          rintro e w7 ⟨rfl, hw7⟩
          obtain rfl := hw7.symm
          go_wp2
          go_ret
          exact ⟨rfl, hB'h.out⟩
        · obtain rfl : r = false := by rw [e, k3]; simp
          clear e
          have T'h := Lib.hid T
          have hB'h := Lib.hid hB
          clear T hB
          go_enter Tryd.func65, Tryd.ntmps65
          go_wp2_with fail
          refine T'h.out.mono ?_
          rintro e w7 ⟨rfl, hw7⟩
          obtain rfl := hw7.symm
          go_wp2
          go_ret
          exact ⟨rfl, hB'h.out⟩
      · obtain rfl : r = false := by rw [e, k3]; simp
        clear e
        have T'h := Lib.hid T
        have hB'h := Lib.hid hB
        clear T hB
        go_enter Tryd.func65, Tryd.ntmps65
        go_wp2_with fail
        refine T'h.out.mono ?_
        rintro e w7 ⟨rfl, hw7⟩
        obtain rfl := hw7.symm
        go_wp2
        go_ret
        exact ⟨rfl, hB'h.out⟩
    · obtain rfl : r = false := by rw [e, k3]; simp
      clear e
      have T'h := Lib.hid T
      have hB'h := Lib.hid hB
      clear T hB
      go_enter Tryd.func65, Tryd.ntmps65
      go_wp2_with fail
      refine T'h.out.mono ?_
      rintro e w7 ⟨rfl, hw7⟩
      obtain rfl := hw7.symm
      go_wp2
      go_ret
      exact ⟨rfl, hB'h.out⟩
  · have e := r3 rfl
    clear r1 r2 r3 r4 r5
    rcases zero_or a with rfl | ⟨k1, k2, k3⟩
    · rcases zero_or b with rfl | ⟨k1, k2, k3⟩
      · obtain rfl : r = true := by rw [e]; rfl
        clear e
        have T'h := Lib.hid T
        have hB'h := Lib.hid hB
        clear T hB
        go_enter Tryd.func65, Tryd.ntmps65
        go_wp2_with fail
        refine T'h.out.mono ?_
        rintro e w7 ⟨rfl, hw7⟩
        obtain rfl := hw7.symm
        go_wp2
        go_ret
        exact ⟨rfl, hB'h.out⟩
      · obtain rfl : r = false := by rw [e, k3]; simp
        clear e
        have T'h := Lib.hid T
        have hB'h := Lib.hid hB
        clear T hB
        go_enter Tryd.func65, Tryd.ntmps65
        go_wp2_with fail
        refine T'h.out.mono ?_
        rintro e w7 ⟨rfl, hw7⟩
        obtain rfl := hw7.symm
        go_wp2
        go_ret
        exact ⟨rfl, hB'h.out⟩
    · obtain rfl : r = false := by rw [e, k3]; simp
      clear e
      have T'h := Lib.hid T
      have hB'h := Lib.hid hB
      clear T hB
      go_enter Tryd.func65, Tryd.ntmps65
      go_wp2_with fail
      refine T'h.out.mono ?_
      rintro e w7 ⟨rfl, hw7⟩
      obtain rfl := hw7.symm
      go_wp2
      go_ret
      exact ⟨rfl, hB'h.out⟩
  · have e := r4 rfl
    clear r1 r2 r3 r4 r5
    rcases zero_or b with rfl | ⟨k1, k2, k3⟩
    · obtain rfl : r = true := by rw [e]; rfl
      clear e
      have T'h := Lib.hid T
      have hB'h := Lib.hid hB
      clear T hB
      go_enter Tryd.func65, Tryd.ntmps65
      go_wp2_with fail
      refine T'h.out.mono ?_
      rintro e w7 ⟨rfl, hw7⟩
      obtain rfl := hw7.symm
      go_wp2
      go_ret
      exact ⟨rfl, hB'h.out⟩
    · obtain rfl : r = false := by rw [e, k3]
      clear e
      have T'h := Lib.hid T
      have hB'h := Lib.hid hB
      clear T hB
      go_enter Tryd.func65, Tryd.ntmps65
      go_wp2_with fail
      refine T'h.out.mono ?_
      rintro e w7 ⟨rfl, hw7⟩
      obtain rfl := hw7.symm
      go_wp2
      go_ret
      exact ⟨rfl, hB'h.out⟩
  · have e := r5 rfl
    clear r1 r2 r3 r4 r5
    subst e
    have e : True := trivial
    clear e
    have T'h := Lib.hid T
    have hB'h := Lib.hid hB
    clear T hB
    go_enter Tryd.func65, Tryd.ntmps65
    go_wp2_with fail
    refine T'h.out.mono ?_
    rintro e w7 ⟨rfl, hw7⟩
    obtain rfl := hw7.symm
    go_wp2
    go_ret
    exact ⟨rfl, hB'h.out⟩
end Go.Proofs.YtogeohjeabbmaaaDoor
