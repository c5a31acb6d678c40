/-
  The layer does something: the laws' first test is true.
-/
import Derived.Test.YtkeegafebnhcpaaRef08
set_option linter.unusedSimpArgs false
set_option linter.unusedVariables false
namespace Go.Proofs.Ytkeegafebnhcpaa
open Go.RowKit

/-! ### slices.Equal at []int, of one kind of numbers -/
theorem equalI_any (sp sp' : Option Addr) (n n' cap cap' : Nat) (l l' : List Int) (w : World) (h : Sl w sp n (l.map (Value.int .i64))) (h' : Sl w sp' n' (l'.map (Value.int .i64))) :
    Calls Try.prog 15 #[.slice sp n cap, .slice sp' n' cap'] w fun e w' => e = .returned (.bool (l == l')) ∧ ∃ d, w' = w.drewN d := by
  have hlen : n = l.length := by have := h.1; simpa using this
  have hlen' : n' = l'.length := by have := h'.1; simpa using this
  have hmax := h.2.1
  unfold maxLen at hmax
  by_cases hnn : n = n'
  · subst hnn
    have hne : ((n : Int) != (n : Int)) = false := by simp
    have hlen'h := Lib.hid hlen
    have hlen''h := Lib.hid hlen'
    have h'h := Lib.hid h
    have h''h := Lib.hid h'
    clear hlen hlen' h h'
    go_enter Try.func15, Try.ntmps15
    go_wp2
    go_loopg [13] n (fun q i wr => ∃ k : Nat, k + q = n ∧ i = .int .i64 k ∧ (∀ j, j < k → nthZ l j = nthZ l' j) ∧ ∃ d, wr = w.drewN d)
    case atStart => exact ⟨0, by omega, rfl, fun j hj => by omega, 0, rfl⟩
    case round =>
      obtain ⟨k, hk, rfl, hall, d, rfl⟩ := hrel
      have hkn : k ≤ n := by omega
      have hk'h := Lib.hid hk
      have hall'h := Lib.hid hall
      clear hk hall
      by_cases hlt : k < n
      · obtain ⟨b, off, rfl, hc1⟩ := h'h.out.some' (by omega)
        obtain ⟨b', off', rfl, hc2⟩ := h''h.out.some' (by omega)
        have hkl : k < l.length := by have := hlen'h.out; omega
        have hkl' : k < l'.length := by have := hlen''h.out; omega
        have c1 := hc1 k _ (i64s_at hkl)
        have c2 := hc2 k _ (i64s_at hkl')
        have c1' : ∀ q, (w.drewN q).cell? ⟨b, off + k, none⟩ = some (.int .i64 (nthZ l k)) := fun q => c1
        have c2' : ∀ q, (w.drewN q).cell? ⟨b', off' + k, none⟩ = some (.int .i64 (nthZ l' k)) := fun q => c2
        have i1 : (k : Int) < (n : Int) := by omega
        have i2 : (0 : Int) ≤ (k : Int) := by omega
        clear hc1 hc2
        by_cases he : nthZ l k = nthZ l' k
        · have hx : (nthZ l k != nthZ l' k) = false := by simp [he]
          have he'h := Lib.hid he
          clear he
          go_wp2_with fail
          go_quiet (fail)
          go_wp2
          go_roundg (gk - 1)
          case measure => have := hk'h.out; omega
          case rel =>
            refine ⟨k + 1, by have := hk'h.out; omega, by go_num, fun j hj => ?_, d + nq, rfl⟩
            by_cases e : j = k
            · rw [e]; exact he'h.out
            · exact hall'h.out j (by omega)
        · have hx : (nthZ l k != nthZ l' k) = true := by simp [he]
          have hf : (l == l') = false := by
            rw [beq_eq_false_iff_ne]; intro e; exact he (by rw [e])
          have he'h := Lib.hid he
          have hf'h := Lib.hid hf
          clear he hf
          go_wp2_with fail
          go_quiet (fail)
          go_wp2
          go_ret
          exact ⟨ret_bool hf'h.out.symm, d + nq, by first | rfl | exact World.drewN_drewN ..⟩
      · have hn : ¬ (k : Int) < (n : Int) := by omega
        have ht : (l == l') = true := by
          rw [beq_iff_eq]
          refine List.ext_getElem (by have := hlen'h.out; have := hlen''h.out; omega) fun j h1 h2 => ?_
          rw [nthZ_eq h1, nthZ_eq h2]
          exact hall'h.out j (by have := hlen'h.out; omega)
        have ht'h := Lib.hid ht
        clear ht
        go_wp2
        go_ret
        exact ⟨ret_bool ht'h.out.symm, d, rfl⟩
  · have hne : ((n : Int) != (n' : Int)) = true := by simp; omega
    have hf : (l == l') = false := by
      rw [beq_eq_false_iff_ne]; intro e; subst e; omega
    have hlen'h := Lib.hid hlen
    have hlen''h := Lib.hid hlen'
    have h'h := Lib.hid h
    have h''h := Lib.hid h'
    have hnn'h := Lib.hid hnn
    have hf'h := Lib.hid hf
    clear hlen hlen' h h' hnn hf
    go_enter Try.func15, Try.ntmps15
    go_wp2
    go_ret
    exact ⟨ret_bool hf'h.out.symm, 0, rfl⟩

theorem row80 : (rowB 8 0).map Int.ofNat = [0, 1, 3, 6, 2, 7, 5, 4] := by decide +kernel
theorem wake_row8 (w : World) : Calls Try.prog 19 #[.int .i64 8, .int .u64 0] w fun e w' =>
    ∃ sp cap, e = .returned (.tuple #[.slice sp 8 cap, .int .i64 0]) ∧ Below w.heap.size w w' ∧ Sl w' sp 8 (([0, 1, 3, 6, 2, 7, 5, 4] : List Int).map (Value.int .i64)) := by
  refine (row_yes 8 0 w (by decide) (by decide)).mono ?_
  rintro e w' ⟨sp, cap, rfl, hB, hr⟩
  refine ⟨sp, cap, rfl, hB, ?_⟩
  rw [← row80]
  exact Sl.of_row hr (by decide)
theorem wake_place (w : World) : Calls Try.prog 25 #[.int .i64 4, .int .u64 5, .int .i64 0] w fun e w' => e = .returned (.tuple #[.int .i64 2, .int .i64 0]) ∧ Below w.heap.size w w' := by
  have h := place_yes 4 5 0 w (by decide) (by decide) (by decide)
  have e : placeB 4 5 0 = 2 := by decide +kernel
  rw [e] at h
  exact h
theorem wake_next (w : World) : Calls Try.prog 14 #[.int .i64 4, .int .i64 2, .int .i64 1] w fun e w' => e = .returned (.tuple #[.int .i64 0, .int .i64 0]) ∧ w' = w := next_yes 4 2 1 w (by decide) (by decide) (by decide)
theorem wake_first (w : World) (b : Nat) (t : TypeId) (h : w.heap[b]? = some (.cells #[.bool true, .bool false, .bool false, .bool true] t)) :
    Calls Try.prog 13 #[.int .i64 4, .int .u64 5, .slice (some ⟨b, 0, none⟩) 4 4] w fun e w' => e = .returned (.tuple #[.int .i64 2, .int .i64 0, .int .i64 0]) ∧ Below w.heap.size w w' := by
  have hS : Sl w (some ⟨b, 0, none⟩) 4 (([true, false, false, true] : List Bool).map Value.bool) := Sl.of_blk h (by decide)
  have h := first_yes 4 5 4 4 (some ⟨b, 0, none⟩) [true, false, false, true] w (by decide) (by decide) hS rfl
  have e : firstB 4 5 [true, false, false, true] = 2 := by decide +kernel
  have e2 : prB 4 5 (2 : Int).toNat = 0 := by decide +kernel
  rw [e, e2, if_pos (by decide)] at h
  exact h
theorem wake_far (w : World) (b : Nat) (t : TypeId) (h : w.heap[b]? = some (.cells #[.int .u64 0, .int .u64 0, .int .u64 1] t)) :
    Calls Try.prog 12 #[.int .i64 2, .slice (some ⟨b, 0, none⟩) 3 3] w fun e w' => ∃ g c, e = .returned (.tuple #[.slice (some ⟨g, 0, none⟩) 2 c, .int .i64 0]) ∧ Below w.heap.size w w' ∧ Sl w' (some ⟨g, 0, none⟩) 2 (([1, 2] : List Int).map (Value.int .i64)) := by
  have hS : Sl w (some ⟨b, 0, none⟩) 3 (u64s [0, 0, 1]) := Sl.of_blk h (by decide)
  refine (far_yes 2 3 3 (some ⟨b, 0, none⟩) [0, 0, 1] w (by decide) (by intro k hk; simp at hk; omega) hS (by decide)).mono ?_
  rintro e w' ⟨g, c, rfl, hB, hs⟩
  have e : (farL 2 [0, 0, 1]).map Int.ofNat = [1, 2] := by decide +kernel
  exact ⟨g, c, rfl, hB, by rw [← e]; exact hs⟩
theorem wake_no (w : World) : Calls Try.prog 19 #[.int .i64 3, .int .u64 0] w fun e w' => e = .returned (.tuple #[.slice none 0 0, .int .i64 180]) ∧ w' = w := row_no 3 0 w (by decide) (by decide)
theorem i64_self (l : List Int) : (l == l) = true := by simp
set_option maxRecDepth 100000 in
set_option maxHeartbeats 2000000 in
theorem wakes_any (w : World) : Calls Try.prog 8 #[] w fun e w' => e = .returned (.bool true) ∧ Below w.heap.size w w' := by
  go_enter Try.func8, Try.ntmps8
  go_wp2_with fail
  refine (wake_row8 _).mono ?_
  rintro e w1 ⟨sp, cap, rfl, hB1, hs1⟩
  have hB1'h := Lib.hid hB1
  have hs1'h := Lib.hid hs1
  clear hB1 hs1
  go_wp2_with fail
  refine (wake_place _).mono ?_
  rintro e w2 ⟨rfl, hB2⟩
  have hBa := below_next hB1'h.out hB2
  have hsa := hs1'h.out.below hB2
  clear hB2
  have hBa'h := Lib.hid hBa
  have hsa'h := Lib.hid hsa
  clear hBa hsa
  go_wp2_with fail
  refine (wake_next _).mono ?_
  rintro e w' ⟨rfl, rfl⟩
  go_wp2_with fail
  refine (wake_first _ _ _ (World.alloc_heap_new _ _)).mono ?_
  rintro e w3 ⟨rfl, hB3⟩
  have hBc : Below w'.heap.size w' w3 := ((Below.refl _ w').alloc (Nat.le_refl _) _).trans (hB3.mono (by simp))
  have hBb := below_next hBa'h.out hBc
  have hsb := hsa'h.out.below hBc
  clear hB3 hBc
  have hBb'h := Lib.hid hBb
  have hsb'h := Lib.hid hsb
  clear hBb hsb
  go_wp2_with fail
  refine (wake_far _ _ _ (World.alloc_heap_new _ _)).mono ?_
  rintro e w4 ⟨g, c, rfl, hB4, hs4⟩
  have hBc : Below w3.heap.size w3 w4 := ((Below.refl _ w3).alloc (Nat.le_refl _) _).trans (hB4.mono (by simp))
  have hBd := below_next hBb'h.out hBc
  have hsd := hsb'h.out.below hBc
  clear hB4 hBc
  have hBd'h := Lib.hid hBd
  have hsd'h := Lib.hid hsd
  have hs4'h := Lib.hid hs4
  clear hBd hsd hs4
  go_wp2_with fail
  refine (wake_no _).mono ?_
  rintro e w' ⟨rfl, rfl⟩
  go_wp2_with fail
  have hb6 : Below w'.heap.size w' (w'.alloc (.cells #[.int .i64 0, .int .i64 1, .int .i64 3, .int .i64 6, .int .i64 2, .int .i64 7, .int .i64 5, .int .i64 4] 3)) := (Below.refl _ _).alloc (Nat.le_refl _) _
  have Q := equalI_any sp (some ⟨w'.heap.size, 0, none⟩) 8 8 cap 8 [0, 1, 3, 6, 2, 7, 5, 4] [0, 1, 3, 6, 2, 7, 5, 4] _ (hsd'h.out.below hb6) (Sl.of_blk (World.alloc_heap_new w' (.cells #[.int .i64 0, .int .i64 1, .int .i64 3, .int .i64 6, .int .i64 2, .int .i64 7, .int .i64 5, .int .i64 4] 3)) (by decide))
  rw [i64_self] at Q
  have hs6 := hs4'h.out.below hb6
  have hB6 := below_next hBd'h.out hb6
  obtain ⟨w6, hw6⟩ : ∃ w6, w6 = (w'.alloc (.cells #[.int .i64 0, .int .i64 1, .int .i64 3, .int .i64 6, .int .i64 2, .int .i64 7, .int .i64 5, .int .i64 4] 3)) := ⟨_, rfl⟩
  change Calls _ _ _ (w'.alloc (.cells #[.int .i64 0, .int .i64 1, .int .i64 3, .int .i64 6, .int .i64 2, .int .i64 7, .int .i64 5, .int .i64 4] 3)) _
  rw [← hw6] at Q hs6 hB6 ⊢
  clear hw6 hb6
  have Q'h := Lib.hid Q
  have hs6'h := Lib.hid hs6
  have hB6'h := Lib.hid hB6
  clear Q hs6 hB6
  refine Q'h.out.mono ?_
  rintro e w7 ⟨rfl, d, rfl⟩
  have hs7 := hs6'h.out.below (below_drewN' w6 d)
  have hB7 := hB6'h.out.trans (below_drewN' w6 d)
  obtain ⟨w7, hw7⟩ : ∃ w7, w7 = w6.drewN d := ⟨_, rfl⟩
  rw [← hw7] at hs7 hB7 ⊢
  clear hw7
  have hs7'h := Lib.hid hs7
  have hB7'h := Lib.hid hB7
  clear hs7 hB7
  go_wp2_with fail
  have hb8 : Below w7.heap.size w7 (w7.alloc (.cells #[.int .i64 1, .int .i64 2] 3)) := (Below.refl _ _).alloc (Nat.le_refl _) _
  have Q2 := equalI_any (some ⟨g, 0, none⟩) (some ⟨w7.heap.size, 0, none⟩) 2 2 c 2 [1, 2] [1, 2] _ (hs7'h.out.below hb8) (Sl.of_blk (World.alloc_heap_new w7 (.cells #[.int .i64 1, .int .i64 2] 3)) (by decide))
  rw [i64_self] at Q2
  have hB8 := below_next hB7'h.out hb8
  have hB8'h := Lib.hid hB8
  have Q2'h := Lib.hid Q2
  clear hB8 Q2
  refine Q2'h.out.mono ?_
  rintro e w9 ⟨rfl, d2, rfl⟩
  go_wp2
  go_ret
  exact ⟨rfl, hB8'h.out.trans (below_drewN' _ _)⟩
end Go.Proofs.Ytkeegafebnhcpaa
