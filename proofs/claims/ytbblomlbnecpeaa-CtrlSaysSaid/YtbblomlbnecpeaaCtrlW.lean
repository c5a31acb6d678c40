/-
  The chapter's examples.
-/
import Derived.Test.YtbblomlbnecpeaaCtrlI
import Derived.Test.YtbblomlbnecpeaaRef09B
import Derived.Test.YtbblomlbnecpeaaLanesW
set_option linter.unusedSimpArgs false
set_option linter.unusedVariables false
set_option maxRecDepth 100000
namespace Go.Proofs.Ytbblomlbnecpeaa
open Go.RowKit

/-! ### slices.Equal at []int, of one kind of numbers -/
theorem equalI_any (sp sp' : Option Addr) (n n' cap cap' : Nat) (l l' : List Int) (w : World) (h : Sl w sp n (l.map (Value.int .i64))) (h' : Sl w sp' n' (l'.map (Value.int .i64))) :
    Calls Try.prog 29 #[.slice sp n cap, .slice sp' n' cap'] w fun e w' => e = .returned (.bool (l == l')) ∧ ∃ d, w' = w.drewN d := by
  have hlen : n = l.length := by have := h.1; simpa using this
  have hlen' : n' = l'.length := by have := h'.1; simpa using this
  have hmax := h.2.1
  unfold maxLen at hmax
  by_cases hnn : n = n'
  · subst hnn
    have hne : ((n : Int) != (n : Int)) = false := by simp
    have hlen'h := Lib.hid hlen
    have hlen''h := Lib.hid hlen'
    have h'h := Lib.hid h
    have h''h := Lib.hid h'
    clear hlen hlen' h h'
    go_enter Try.func29, Try.ntmps29
    go_wp2
    go_loopg [13] n (fun q i wr => ∃ k : Nat, k + q = n ∧ i = .int .i64 k ∧ (∀ j, j < k → nthZ l j = nthZ l' j) ∧ ∃ d, wr = w.drewN d)
    case atStart => exact ⟨0, by omega, rfl, fun j hj => by omega, 0, rfl⟩
    case round =>
      obtain ⟨k, hk, rfl, hall, d, rfl⟩ := hrel
      have hkn : k ≤ n := by omega
      have hk'h := Lib.hid hk
      have hall'h := Lib.hid hall
      clear hk hall
      by_cases hlt : k < n
      · obtain ⟨b, off, rfl, hc1⟩ := h'h.out.some' (by omega)
        obtain ⟨b', off', rfl, hc2⟩ := h''h.out.some' (by omega)
        have hkl : k < l.length := by have := hlen'h.out; omega
        have hkl' : k < l'.length := by have := hlen''h.out; omega
        have c1 := hc1 k _ (i64s_at hkl)
        have c2 := hc2 k _ (i64s_at hkl')
        have c1' : ∀ q, (w.drewN q).cell? ⟨b, off + k, none⟩ = some (.int .i64 (nthZ l k)) := fun q => c1
        have c2' : ∀ q, (w.drewN q).cell? ⟨b', off' + k, none⟩ = some (.int .i64 (nthZ l' k)) := fun q => c2
        have i1 : (k : Int) < (n : Int) := by omega
        have i2 : (0 : Int) ≤ (k : Int) := by omega
        clear hc1 hc2
        by_cases he : nthZ l k = nthZ l' k
        · have hx : (nthZ l k != nthZ l' k) = false := by simp [he]
          have he'h := Lib.hid he
          clear he
          go_wp2_with fail
          go_quiet (fail)
          go_wp2
          go_roundg (gk - 1)
          case measure => have := hk'h.out; omega
          case rel =>
            refine ⟨k + 1, by have := hk'h.out; omega, by go_num, fun j hj => ?_, d + nq, rfl⟩
            by_cases e : j = k
            · rw [e]; exact he'h.out
            · exact hall'h.out j (by omega)
        · have hx : (nthZ l k != nthZ l' k) = true := by simp [he]
          have hf : (l == l') = false := by
            rw [beq_eq_false_iff_ne]; intro e; exact he (by rw [e])
          have he'h := Lib.hid he
          have hf'h := Lib.hid hf
          clear he hf
          go_wp2_with fail
          go_quiet (fail)
          go_wp2
          go_ret
          exact ⟨ret_bool hf'h.out.symm, d + nq, by first | rfl | exact World.drewN_drewN ..⟩
      · have hn : ¬ (k : Int) < (n : Int) := by omega
        have ht : (l == l') = true := by
          rw [beq_iff_eq]
          refine List.ext_getElem (by have := hlen'h.out; have := hlen''h.out; omega) fun j h1 h2 => ?_
          rw [nthZ_eq h1, nthZ_eq h2]
          exact hall'h.out j (by have := hlen'h.out; omega)
        have ht'h := Lib.hid ht
        clear ht
        go_wp2
        go_ret
        exact ⟨ret_bool ht'h.out.symm, d, rfl⟩
  · have hne : ((n : Int) != (n' : Int)) = true := by simp; omega
    have hf : (l == l') = false := by
      rw [beq_eq_false_iff_ne]; intro e; subst e; omega
    have hlen'h := Lib.hid hlen
    have hlen''h := Lib.hid hlen'
    have h'h := Lib.hid h
    have h''h := Lib.hid h'
    have hnn'h := Lib.hid hnn
    have hf'h := Lib.hid hf
    clear hlen hlen' h h' hnn hf
    go_enter Try.func29, Try.ntmps29
    go_wp2
    go_ret
    exact ⟨ret_bool hf'h.out.symm, 0, rfl⟩
def wkC : Nat := 0x8080808080050905
def wkX : Nat := 0x8080808080058005
def wkE : Nat := 0x0303030303030303
def wkY : Nat := 0x030303fe03030303
theorem wk_c64 : wkC < 2 ^ 64 := by decide
theorem wk_x64 : wkX < 2 ^ 64 := by decide
theorem wk_e64 : wkE < 2 ^ 64 := by decide
theorem wk_y64 : wkY < 2 ^ 64 := by decide
theorem wk_n64 : fillW 128 < 2 ^ 64 := fillW_lt _ (by decide)
theorem wk_1 : fillsT (fillW 128) [5, 9, 5] = (wkC, [0, 1, 2], 0) := by decide +kernel
theorem wk_2 : matchM wkC 5 = 5 ∧ matchE wkC 5 = 0 := by decide +kernel
theorem wk_3 : eraseW' wkC 1 = wkX ∧ eraseZ wkC 1 = 0 := by decide +kernel
theorem wk_4 : setM wkX 0 = 5 ∧ setM wkX 1 = 250 := by decide +kernel
theorem wk_5 : ofW [3, 3, 3, 3, 3, 3, 3, 3] = wkE := by decide +kernel
theorem wk_6 : eraseW' wkE 4 = wkY ∧ eraseZ wkE 4 = 0 := by decide +kernel
theorem wk_7 : fillZ wkC 0 7 = 5 := by decide +kernel
theorem wk_8 : (rightW wkY && stopsW wkY) = false := by decide +kernel
theorem wk_9 : byteAt wkY 4 = 254 := by decide +kernel
theorem wk_10 : rightW 255 = false := by decide +kernel
theorem cwakes_any (w : World) : Calls Try.prog 9 #[] w fun e w' => e = .returned (.bool true) ∧ Below w.heap.size w w' := by
  have F1 := fun w sp h => xfills_any (fillW 128) 3 3 sp [5, 9, 5] w wk_n64 (by intro c hc; simp at hc; omega) h (by decide)
  have F2 := fun w => match_any wkC 5 w wk_c64 (by decide)
  have F3 := fun w => xerase_any wkC 1 w wk_c64
  have F4 := fun w => sets_any wkX w wk_x64
  have F5 := fun w sp h => refOf_any sp 8 8 [3, 3, 3, 3, 3, 3, 3, 3] w (by intro c hc; simp at hc; omega) h
  have F6 := fun w => xerase_any wkE 4 w wk_e64
  have F7 := fun w => xfill_any wkC 7 0 w wk_c64 (by decide)
  have F8 := fun w => stops_any wkY w wk_y64
  have F9 := fun w => refAt_any wkY 4 w wk_y64 (by decide)
  have F10 := fun w => check_any 255 w (by decide)
  have N := fun w => new_any w
  rw [wk_1] at F1
  rw [wk_2.1, wk_2.2] at F2
  rw [wk_3.1, wk_3.2] at F3
  rw [wk_4.1, wk_4.2] at F4
  rw [wk_5] at F5
  rw [wk_6.1, wk_6.2] at F6
  rw [wk_7] at F7
  rw [wk_8] at F8
  rw [wk_9] at F9
  rw [wk_10, if_neg (by decide)] at F10
  generalize setM wkX 2 = s2 at *
  generalize fillW' wkC 0 7 = f2 at *
  generalize fillW 128 = n0 at *
  have F1'h := Lib.hid F1
  have F2'h := Lib.hid F2
  have F3'h := Lib.hid F3
  have F4'h := Lib.hid F4
  have F5'h := Lib.hid F5
  have F6'h := Lib.hid F6
  have F7'h := Lib.hid F7
  have F8'h := Lib.hid F8
  have F9'h := Lib.hid F9
  have F10'h := Lib.hid F10
  have N'h := Lib.hid N
  clear F1 F2 F3 F4 F5 F6 F7 F8 F9 F10 N
  have hb0 : Below w.heap.size w (w.alloc (.cells #[.int .u8 5, .int .u8 9, .int .u8 5] 5)) := (Below.refl _ _).alloc (Nat.le_refl _) _
  have hS0 : Sl (w.alloc (.cells #[.int .u8 5, .int .u8 9, .int .u8 5] 5)) (some ⟨w.heap.size, 0, none⟩) 3 (u8s [5, 9, 5]) := Sl.of_blk (World.alloc_heap_new _ _) (by decide)
  have hb0'h := Lib.hid hb0
  have hS0'h := Lib.hid hS0
  clear hb0 hS0
  go_enter Try.func9, Try.ntmps9
  go_wp2_with fail
  refine (N'h.out _).mono ?_
  rintro e w' ⟨rfl, rfl⟩
  go_wp2_with fail
  refine (F1'h.out _ _ hS0'h.out).mono ?_
  rintro e w1 ⟨sp, n, cap, rfl, hb1, hrow⟩
  have hB1 := hb0'h.out.trans (hb1.mono hb0'h.out.size)
  obtain rfl := row_len' hrow
  have hL := Sl.of_row hrow (by decide)
  clear hb1 hrow
  have hB1'h := Lib.hid hB1
  have hL'h := Lib.hid hL
  clear hB1 hL
  go_wp2_with fail
  refine (F2'h.out _).mono ?_
  rintro e w2 ⟨rfl, hb2⟩
  have hB2 := below_next hB1'h.out hb2
  have hL2 := hL'h.out.below hb2
  clear hb2
  have hB2'h := Lib.hid hB2
  have hL2'h := Lib.hid hL2
  clear hB2 hL2
  go_wp2_with fail
  refine (F3'h.out _).mono ?_
  rintro e w3 ⟨rfl, hb3⟩
  have hB3 := below_next hB2'h.out hb3
  have hL3 := hL2'h.out.below hb3
  clear hb3
  have hB3'h := Lib.hid hB3
  have hL3'h := Lib.hid hL3
  clear hB3 hL3
  go_wp2_with fail
  refine (F4'h.out _).mono ?_
  rintro e w4 ⟨rfl, hb4⟩
  have hB4 := below_next hB3'h.out hb4
  have hL4 := hL3'h.out.below hb4
  clear hb4
  have hB4'h := Lib.hid hB4
  have hL4'h := Lib.hid hL4
  clear hB4 hL4
  have hS5 : Sl (w4.alloc (.cells #[.int .u8 3, .int .u8 3, .int .u8 3, .int .u8 3, .int .u8 3, .int .u8 3, .int .u8 3, .int .u8 3] 5)) (some ⟨w4.heap.size, 0, none⟩) 8 (u8s [3, 3, 3, 3, 3, 3, 3, 3]) := Sl.of_blk (World.alloc_heap_new _ _) (by decide)
  have hS5'h := Lib.hid hS5
  clear hS5
  go_wp2_with fail
  refine (F5'h.out _ _ hS5'h.out).mono ?_
  rintro e w' ⟨rfl, rfl⟩
  obtain ⟨w5, hw5⟩ : ∃ w5, w5 = w4.alloc (.cells #[.int .u8 3, .int .u8 3, .int .u8 3, .int .u8 3, .int .u8 3, .int .u8 3, .int .u8 3, .int .u8 3] 5) := ⟨_, rfl⟩
  have hb5 : Below w4.heap.size w4 w5 := by rw [hw5]; exact (Below.refl _ _).alloc (Nat.le_refl _) _
  have hB5 := below_next hB4'h.out hb5
  have hL5 := hL4'h.out.below hb5
  rw [← hw5]
  clear hb5 hw5
  have hB5'h := Lib.hid hB5
  have hL5'h := Lib.hid hL5
  clear hB5 hL5
  go_wp2_with fail
  refine (F6'h.out _).mono ?_
  rintro e w6 ⟨rfl, hb6⟩
  have hB6 := below_next hB5'h.out hb6
  have hL6 := hL5'h.out.below hb6
  clear hb6
  have hB6'h := Lib.hid hB6
  have hL6'h := Lib.hid hL6
  clear hB6 hL6
  go_wp2_with fail
  refine (F7'h.out _).mono ?_
  rintro e w7 ⟨rfl, hb7⟩
  have hB7 := below_next hB6'h.out hb7
  have hL7 := hL6'h.out.below hb7
  clear hb7
  have hb8 : Below w7.heap.size w7 (w7.alloc (.cells #[.int .i64 0, .int .i64 1, .int .i64 2] 3)) := (Below.refl _ _).alloc (Nat.le_refl _) _
  have hB8 := below_next hB7 hb8
  have hL8 := hL7.below hb8
  have hS8 : Sl (w7.alloc (.cells #[.int .i64 0, .int .i64 1, .int .i64 2] 3)) (some ⟨w7.heap.size, 0, none⟩) 3 (([0, 1, 2] : List Int).map (Value.int .i64)) := Sl.of_blk (World.alloc_heap_new _ _) (by decide)
  have hE := equalI_any sp _ 3 3 cap 3 [0, 1, 2] [0, 1, 2] _ hL8 hS8
  rw [show (([0, 1, 2] : List Int) == [0, 1, 2]) = true by decide] at hE
  clear hb8 hL8 hS8 hL7 hB7
  have hB8'h := Lib.hid hB8
  have hE'h := Lib.hid hE
  clear hB8 hE
  go_wp2_with fail
  refine hE'h.out.mono ?_
  rintro e w8 ⟨rfl, d, rfl⟩
  go_wp2_with fail
  refine (F8'h.out _).mono ?_
  rintro e w9 ⟨rfl, hb9⟩
  have hB9 := hB8'h.out.trans ((Below.trans (below_drewN' _ d) hb9).mono hB8'h.out.size)
  clear hb9
  have hB9'h := Lib.hid hB9
  clear hB9
  go_wp2_with fail
  refine (F9'h.out _).mono ?_
  rintro e w' ⟨rfl, rfl⟩
  go_wp2_with fail
  refine (F10'h.out _).mono ?_
  rintro e w' ⟨rfl, rfl⟩
  go_wp2
  go_ret
  exact ⟨rfl, hB9'h.out⟩
end Go.Proofs.Ytbblomlbnecpeaa
