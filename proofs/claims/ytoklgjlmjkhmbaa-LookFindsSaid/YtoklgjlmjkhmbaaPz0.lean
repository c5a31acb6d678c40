/-
  Several texts of mine in one: Ref07 Ref07B Ref18 Ref18B Ref18C Ref18D Ref18E Ref18F Ref18G Ref18H Law18 Law18B Law18C Law18D Prs Takes Runs.
-/
import Derived.Test.YtoklgjlmjkhmbaaHash
import Derived.Test.YtoklgjlmjkhmbaaLookI
import Derived.Test.YtoklgjlmjkhmbaaLanesT
import Derived.Test.YtoklgjlmjkhmbaaRef08
import Derived.BigQuiet
import Derived.Deep.Cut
import Derived.StillTailTactics
import Derived.Deep.RegionHeld3
import Derived.Test.YtoklgjlmjkhmbaaHas
import Derived.Test.YtoklgjlmjkhmbaaEq64
import Derived.Deep.CutRange
import Derived.Laws.StructEq
/-
  The document's functions of layer 7, each by its contract.
-/
set_option linter.unusedSimpArgs false
set_option linter.unusedVariables false
namespace Go.Proofs.Ytoklgjlmjkhmbaa
open Go.RowKit

def powN (k : Nat) : Nat := 2 ^ k
def lowN (x k : Nat) : Nat := x % 2 ^ k
def highN (x k : Nat) : Nat := x / 2 ^ k * 2 ^ k
theorem two_pow_lt {k : Nat} (h : k < 64) : 2 ^ k < 2 ^ 64 := Nat.pow_lt_pow_right (by decide) h
theorem has_val {x p : Nat} {t : Bool} (hq : x / p < 2 ^ 64) (ht : (x / p % 2 == 1) = t) : ((IntKind.u64.wrap ((x : Int) / (p : Int))).tmod 2 == 1) = t := by
  rw [← ht, Bool.eq_iff_iff, beq_iff_eq, beq_iff_eq, ← Int.natCast_ediv, wrap_u64_nat _ hq, Int.tmod_eq_emod_of_nonneg (Int.natCast_nonneg _)]; omega
theorem mod_two_pow_lt (x k : Nat) (h : k ≤ 64) : x % 2 ^ k < 2 ^ 64 := Nat.lt_of_lt_of_le (Nat.mod_lt _ (Nat.two_pow_pos _)) (Nat.pow_le_pow_right (by decide) h)
theorem wrap_add {a b c : Nat} (h : c = a + b) (hc : c < 2 ^ 64) : IntKind.u64.wrap ((a : Int) + (b : Int)) = (c : Int) := by
  rw [IntKind.wrap_u64]; omega
theorem low_step {r k : Nat} (hk : k < 64) : (r.testBit k = true → IntKind.u64.wrap ((lowN r k : Int) + (powN k : Int)) = (lowN r (k + 1) : Int)) ∧ (r.testBit k = false → lowN r k = lowN r (k + 1)) := by
  have hn := low_next r k
  have hl1 := mod_two_pow_lt r (k + 1) (by omega)
  unfold lowN powN
  refine ⟨fun h => ?_, fun h => ?_⟩
  · rw [h, if_pos rfl] at hn; exact wrap_add hn hl1
  · rw [h] at hn; simpa using hn.symm
theorem low_all {r : Nat} (hr : r < 2 ^ 64) : lowN r 64 = r := Nat.mod_eq_of_lt hr
theorem low_none (r : Nat) : lowN r 0 = 0 := Nat.mod_one r
theorem wrap_div {x p : Nat} (hx : x < 2 ^ 64) : IntKind.u64.wrap ((x : Int) / (p : Int)) = ((x / p : Nat) : Int) := by
  rw [← Int.natCast_ediv, wrap_u64_nat _ (Nat.lt_of_le_of_lt (Nat.div_le_self _ _) hx)]
theorem high_step {r k : Nat} (hr : r < 2 ^ 64) : (r.testBit k = true → IntKind.u64.wrap ((highN r (k + 1) : Int) + (powN k : Int)) = (highN r k : Int)) ∧ (r.testBit k = false → highN r (k + 1) = highN r k) := by
  have hn := high_next r k
  have hl : r / 2 ^ k * 2 ^ k < 2 ^ 64 := Nat.lt_of_le_of_lt (Nat.div_mul_le_self _ _) hr
  unfold highN powN
  refine ⟨fun h => ?_, fun h => ?_⟩
  · rw [h, if_pos rfl] at hn; exact wrap_add hn hl
  · rw [h] at hn; simpa using hn.symm
theorem high_all {r : Nat} : highN r 0 = r := by unfold highN; simp
theorem high_none {r : Nat} (hr : r < 2 ^ 64) : highN r 64 = 0 := by unfold highN; rw [Nat.div_eq_of_lt hr, Nat.zero_mul]
theorem high_lt {r : Nat} (k : Nat) (hr : r < 2 ^ 64) : highN r k < 2 ^ 64 := Nat.lt_of_le_of_lt (Nat.div_mul_le_self _ _) hr
theorem wrap_mul (a c : Nat) : IntKind.u64.wrap ((a : Int) * (c : Int)) = ((a * c % 2 ^ 64 : Nat) : Int) := by
  rw [IntKind.wrap_u64, ← Int.natCast_mul]; omega
end Go.Proofs.Ytoklgjlmjkhmbaa

/-
  The document's answers of layer 7, each by its contract.
-/
set_option linter.unusedSimpArgs false
set_option linter.unusedVariables false
namespace Go.Proofs.Ytoklgjlmjkhmbaa
open Go.RowKit

theorem mul_one' (x : Nat) : IntKind.u64.wrap ((x : Int) * 13787848793156543929) = ((hMul x hOne : Nat) : Int) := wrap_mul x hOne
theorem mul_two' (x : Nat) : IntKind.u64.wrap ((x : Int) * 10723151780598845931) = ((hMul x hTwo : Nat) : Int) := wrap_mul x hTwo
theorem ref_h1 (h : Nat) (w : World) (hh : h < 2 ^ 64) : Calls Try.prog 42 #[.int .u64 h] w fun e w' => e = .returned (.int .u64 (h / 128 : Nat)) ∧ w' = w := by
  have hw : IntKind.u64.wrap ((h : Int) / 128) = ((h / 128 : Nat) : Int) := wrap_div (p := 128) hh
  have hh'h := Lib.hid hh
  have hw'h := Lib.hid hw
  clear hh hw
  go_enter Try.func42, Try.ntmps42
  go_wp2
  go_ret
  exact ⟨ret_u64 (by have := hw'h.out; have := hh'h.out; omega), rfl⟩
theorem ref_h2 (h : Nat) (w : World) (hh : h < 2 ^ 64) : Calls Try.prog 45 #[.int .u64 h] w fun e w' => e = .returned (.int .u8 (h % 128 : Nat)) ∧ w' = w := by
  have hh'h := Lib.hid hh
  clear hh
  go_enter Try.func45, Try.ntmps45
  go_wp2
  go_ret
  refine ⟨ret_u8 ?_, rfl⟩
  first | omega | (rw [Int.tmod_eq_emod_of_nonneg (Int.natCast_nonneg _), IntKind.wrap_u8]; omega)
theorem prefix_step {h k : Nat} (hh : h < 2 ^ 64) (hk : k < 64) : (h.testBit (63 - k) = true → IntKind.u64.wrap (IntKind.u64.wrap (2 * (hPrefix h k : Int)) + 1) = (hPrefix h (k + 1) : Int)) ∧ (h.testBit (63 - k) = false → IntKind.u64.wrap (2 * (hPrefix h k : Int)) = (hPrefix h (k + 1) : Int)) := by
  have hn := prefix_next (a := h) hk
  have hl := hPrefix_lt (k + 1) hh
  simp only [IntKind.wrap_u64]
  refine ⟨fun e => ?_, fun e => ?_⟩
  · rw [e, if_pos rfl] at hn; omega
  · rw [e] at hn; simp at hn; omega
theorem prefix_none {h : Nat} (hh : h < 2 ^ 64) : hPrefix h 0 = 0 := Nat.div_eq_of_lt hh
end Go.Proofs.Ytoklgjlmjkhmbaa

/-
  The document's answers of layer 18, each by its contract.
-/
set_option linter.unusedSimpArgs false
set_option linter.unusedVariables false
set_option maxRecDepth 100000
namespace Go.Proofs.Ytoklgjlmjkhmbaa
open Go.RowKit

theorem ref_slab (n : Int) (w : World) : Calls Try.prog 9 #[.int .i64 n] w fun e w' => e = .returned (.bool (decide (0 ≤ n ∧ n < 128))) ∧ w' = w := by
  by_cases h1 : 0 ≤ n
  · by_cases h2 : n < 128
    · have e : decide (0 ≤ n ∧ n < 128) = true := by simp; omega
      have d1 : decide ((0 : Int) ≤ n) = true := by simp; omega
      have d2 : decide (n < 128) = true := by simp; omega
      rw [e]
      go_enter Try.func9, Try.ntmps9
      go_wp2
      go_ret
      exact ⟨rfl, rfl⟩
    · have e : decide (0 ≤ n ∧ n < 128) = false := by simp; omega
      have d1 : decide ((0 : Int) ≤ n) = true := by simp; omega
      have d2 : decide (n < 128) = false := by simp; omega
      rw [e]
      go_enter Try.func9, Try.ntmps9
      go_wp2
      go_ret
      exact ⟨rfl, rfl⟩
  · have e : decide (0 ≤ n ∧ n < 128) = false := by simp; omega
    have d1 : decide ((0 : Int) ≤ n) = false := by simp; omega
    rw [e]
    go_enter Try.func9, Try.ntmps9
    go_wp2
    go_ret
    exact ⟨rfl, rfl⟩
theorem ref_cell (slab word : Nat) (w : World) (hs : slab < 128) (hw : word < 40) : Calls Try.prog 10 #[.int .i64 slab, .int .i64 word] w fun e w' => e = .returned (.int .i64 ((16 + 40 * slab + word : Nat) : Int)) ∧ w' = w := by
  have e : ((16 + 40 * slab + word : Nat) : Int) = 16 + 40 * (slab : Int) + (word : Int) := by omega
  rw [e]
  have b1 : (slab : Int) < 128 := by omega
  have b2 : (word : Int) < 40 := by omega
  clear e
  go_enter Try.func10, Try.ntmps10
  go_wp2
  go_ret
  exact ⟨rfl, rfl⟩
theorem ref_cells (sp : Option Addr) (n cap : Nat) (w : World) (hn : n ≤ 9223372036854775807) : Calls Try.prog 15 #[.slice sp n cap] w fun e w' => e = .returned (.bool (decide (1 ≤ n ∧ n ≤ 8192))) ∧ w' = w := by
  by_cases h1 : 1 ≤ n
  · by_cases h2 : n ≤ 8192
    · have e : decide (1 ≤ n ∧ n ≤ 8192) = true := by simp; omega
      have d1 : decide ((1 : Int) ≤ (n : Int)) = true := by simp; omega
      have d2 : decide ((n : Int) ≤ 8192) = true := by simp; omega
      rw [e]
      go_enter Try.func15, Try.ntmps15
      go_wp2
      go_ret
      exact ⟨rfl, rfl⟩
    · have e : decide (1 ≤ n ∧ n ≤ 8192) = false := by simp; omega
      have d1 : decide ((1 : Int) ≤ (n : Int)) = true := by simp; omega
      have d2 : decide ((n : Int) ≤ 8192) = false := by simp; omega
      rw [e]
      go_enter Try.func15, Try.ntmps15
      go_wp2
      go_ret
      exact ⟨rfl, rfl⟩
  · have e : decide (1 ≤ n ∧ n ≤ 8192) = false := by simp; omega
    have d1 : decide ((1 : Int) ≤ (n : Int)) = false := by simp; omega
    rw [e]
    go_enter Try.func15, Try.ntmps15
    go_wp2
    go_ret
    exact ⟨rfl, rfl⟩
theorem rightS_no {s : Sg} (h : ¬ SgRight s) : rightS s = false := by rw [Bool.eq_false_iff, ne_eq, rightS_iff]; exact h
set_option maxHeartbeats 2000000 in
theorem ref_right (s : Sg) (w : World) (h : SgOk s) : Calls Try.prog 19 #[.agg (sgA s)] w fun e w' => e = .returned (.bool (rightS s)) ∧ Below w.heap.size w w' := by
  have hb0 : Below w.heap.size w (w.alloc (.cells (sgA s) 33)) := (Below.refl _ _).alloc (Nat.le_refl _) _
  have hg := World.alloc_heap_new w (.cells (sgA s) 33)
  have c0 : (w.alloc (.cells (sgA s) 33)).cell? ⟨w.heap.size, 0, none⟩ = some (.int .i64 s.phase) := blk_cell hg rfl
  have c1 : (w.alloc (.cells (sgA s) 33)).cell? ⟨w.heap.size, 1, none⟩ = some (.int .i64 s.slab) := blk_cell hg rfl
  have c4 : (w.alloc (.cells (sgA s) 33)).cell? ⟨w.heap.size, 4, none⟩ = some (.int .u64 s.began) := blk_cell hg rfl
  have c5 : (w.alloc (.cells (sgA s) 33)).cell? ⟨w.heap.size, 5, none⟩ = some (.int .i64 s.grp) := blk_cell hg rfl
  have c7 : (w.alloc (.cells (sgA s) 33)).cell? ⟨w.heap.size, 7, none⟩ = some (.int .u8 s.left) := blk_cell hg rfl
  have S := fun w => ref_slab s.slab w
  have R := rightS_iff s
  have RN := @rightS_no s
  have hbn : (s.began : Int) % 2 = ((s.began % 2 : Nat) : Int) := by omega
  have hbt : (s.began : Int).tmod 2 = ((s.began % 2 : Nat) : Int) := by rw [Int.tmod_eq_emod_of_nonneg (by omega)]; omega
  have hb2 : s.began % 2 < 2 := Nat.mod_lt _ (by decide)
  have hB := h.began
  generalize hr : rightS s = r at *
  clear hg
  by_cases k0 : s.phase < 0
  · have d0 : decide (s.phase < 0) = true := by simp; omega
    have e : r = false := RN (by rintro ⟨h1, h2, h3, h4, h5⟩; omega)
    subst e
    clear hr R RN
    generalize s.phase = ph at *
    generalize s.slab = sl at *
    generalize s.began = be at *
    generalize s.grp = gr at *
    generalize s.left = le at *
    have h'h := Lib.hid h
    have S'h := Lib.hid S
    have hb0'h := Lib.hid hb0
    clear h S hb0
    go_enter Try.func19, Try.ntmps19
    go_wp2_with (go_at_call 9; refine (S'h.out _).mono ?_; rintro e w2 ⟨rfl, rfl⟩)
    go_ret
    exact ⟨rfl, hb0'h.out⟩
  · have d0 : decide (s.phase < 0) = false := by simp; omega
    by_cases k1 : 6 < s.phase
    · have d1 : decide (6 < s.phase) = true := by simp; omega
      have e : r = false := RN (by rintro ⟨h1, h2, h3, h4, h5⟩; omega)
      subst e
      clear hr R RN
      generalize s.phase = ph at *
      generalize s.slab = sl at *
      generalize s.began = be at *
      generalize s.grp = gr at *
      generalize s.left = le at *
      have h'h := Lib.hid h
      have S'h := Lib.hid S
      have hb0'h := Lib.hid hb0
      clear h S hb0
      go_enter Try.func19, Try.ntmps19
      go_wp2_with (go_at_call 9; refine (S'h.out _).mono ?_; rintro e w2 ⟨rfl, rfl⟩)
      go_ret
      exact ⟨rfl, hb0'h.out⟩
    · have d1 : decide (6 < s.phase) = false := by simp; omega
      by_cases k2 : ¬ (0 ≤ s.slab ∧ s.slab < 128)
      · have d2 : decide (0 ≤ s.slab ∧ s.slab < 128) = false := by simp; omega
        have e : r = false := RN (by rintro ⟨h1, h2, h3, h4, h5⟩; omega)
        subst e
        clear hr R RN
        generalize s.phase = ph at *
        generalize s.slab = sl at *
        generalize s.began = be at *
        generalize s.grp = gr at *
        generalize s.left = le at *
        have h'h := Lib.hid h
        have S'h := Lib.hid S
        have hb0'h := Lib.hid hb0
        clear h S hb0
        go_enter Try.func19, Try.ntmps19
        go_wp2_with (go_at_call 9; refine (S'h.out _).mono ?_; rintro e w2 ⟨rfl, rfl⟩)
        go_ret
        exact ⟨rfl, hb0'h.out⟩
      · have d2 : decide (0 ≤ s.slab ∧ s.slab < 128) = true := by simp; omega
        by_cases k3 : s.began % 2 = 1
        · have d3 : s.began % 2 = 1 := by omega
          have e : r = false := RN (by rintro ⟨h1, h2, h3, h4, h5⟩; omega)
          subst e
          clear hr R RN
          generalize s.phase = ph at *
          generalize s.slab = sl at *
          generalize s.began = be at *
          generalize s.grp = gr at *
          generalize s.left = le at *
          have h'h := Lib.hid h
          have S'h := Lib.hid S
          have hb0'h := Lib.hid hb0
          clear h S hb0
          go_enter Try.func19, Try.ntmps19
          go_wp2_with (go_at_call 9; refine (S'h.out _).mono ?_; rintro e w2 ⟨rfl, rfl⟩)
          go_ret
          exact ⟨rfl, hb0'h.out⟩
        · have d3 : s.began % 2 = 0 := by omega
          by_cases k4 : s.grp < 0
          · have d4 : decide (s.grp < 0) = true := by simp; omega
            have e : r = false := RN (by rintro ⟨h1, h2, h3, h4, h5⟩; omega)
            subst e
            clear hr R RN
            generalize s.phase = ph at *
            generalize s.slab = sl at *
            generalize s.began = be at *
            generalize s.grp = gr at *
            generalize s.left = le at *
            have h'h := Lib.hid h
            have S'h := Lib.hid S
            have hb0'h := Lib.hid hb0
            clear h S hb0
            go_enter Try.func19, Try.ntmps19
            go_wp2_with (go_at_call 9; refine (S'h.out _).mono ?_; rintro e w2 ⟨rfl, rfl⟩)
            go_ret
            exact ⟨rfl, hb0'h.out⟩
          · have d4 : decide (s.grp < 0) = false := by simp; omega
            by_cases k5 : 1 < s.grp
            · have d5 : decide (1 < s.grp) = true := by simp; omega
              have e : r = false := RN (by rintro ⟨h1, h2, h3, h4, h5⟩; omega)
              subst e
              clear hr R RN
              generalize s.phase = ph at *
              generalize s.slab = sl at *
              generalize s.began = be at *
              generalize s.grp = gr at *
              generalize s.left = le at *
              have h'h := Lib.hid h
              have S'h := Lib.hid S
              have hb0'h := Lib.hid hb0
              clear h S hb0
              go_enter Try.func19, Try.ntmps19
              go_wp2_with (go_at_call 9; refine (S'h.out _).mono ?_; rintro e w2 ⟨rfl, rfl⟩)
              go_ret
              exact ⟨rfl, hb0'h.out⟩
            · have d5 : decide (1 < s.grp) = false := by simp; omega
              by_cases k6 : s.left ≠ 0
              · have d6 : ((s.left : Int) != 0) = true := by simp; omega
                have e : r = true := R.2 ⟨by omega, by omega, by omega, by omega, by omega⟩
                subst e
                clear hr R RN
                generalize s.phase = ph at *
                generalize s.slab = sl at *
                generalize s.began = be at *
                generalize s.grp = gr at *
                generalize s.left = le at *
                have h'h := Lib.hid h
                have S'h := Lib.hid S
                have hb0'h := Lib.hid hb0
                clear h S hb0
                go_enter Try.func19, Try.ntmps19
                go_wp2_with (go_at_call 9; refine (S'h.out _).mono ?_; rintro e w2 ⟨rfl, rfl⟩)
                go_ret
                exact ⟨rfl, hb0'h.out⟩
              · have d6 : ((s.left : Int) != 0) = false := by simp; omega
                by_cases k7 : s.phase = 2
                · have d7 : (s.phase != 2) = false := by simp; omega
                  have e : r = false := RN (by rintro ⟨h1, h2, h3, h4, h5⟩; omega)
                  subst e
                  clear hr R RN
                  generalize s.phase = ph at *
                  generalize s.slab = sl at *
                  generalize s.began = be at *
                  generalize s.grp = gr at *
                  generalize s.left = le at *
                  have h'h := Lib.hid h
                  have S'h := Lib.hid S
                  have hb0'h := Lib.hid hb0
                  clear h S hb0
                  go_enter Try.func19, Try.ntmps19
                  go_wp2_with (go_at_call 9; refine (S'h.out _).mono ?_; rintro e w2 ⟨rfl, rfl⟩)
                  go_ret
                  exact ⟨rfl, hb0'h.out⟩
                · have d7 : (s.phase != 2) = true := by simp; omega
                  by_cases k8 : s.phase = 3
                  · have d8 : (s.phase != 3) = false := by simp; omega
                    have e : r = false := RN (by rintro ⟨h1, h2, h3, h4, h5⟩; omega)
                    subst e
                    clear hr R RN
                    generalize s.phase = ph at *
                    generalize s.slab = sl at *
                    generalize s.began = be at *
                    generalize s.grp = gr at *
                    generalize s.left = le at *
                    have h'h := Lib.hid h
                    have S'h := Lib.hid S
                    have hb0'h := Lib.hid hb0
                    clear h S hb0
                    go_enter Try.func19, Try.ntmps19
                    go_wp2_with (go_at_call 9; refine (S'h.out _).mono ?_; rintro e w2 ⟨rfl, rfl⟩)
                    go_ret
                    exact ⟨rfl, hb0'h.out⟩
                  · have d8 : (s.phase != 3) = true := by simp; omega
                    have e : r = true := R.2 ⟨by omega, by omega, by omega, by omega, by omega⟩
                    subst e
                    clear hr R RN
                    generalize s.phase = ph at *
                    generalize s.slab = sl at *
                    generalize s.began = be at *
                    generalize s.grp = gr at *
                    generalize s.left = le at *
                    have h'h := Lib.hid h
                    have S'h := Lib.hid S
                    have hb0'h := Lib.hid hb0
                    clear h S hb0
                    go_enter Try.func19, Try.ntmps19
                    go_wp2_with (go_at_call 9; refine (S'h.out _).mono ?_; rintro e w2 ⟨rfl, rfl⟩)
                    go_ret
                    exact ⟨rfl, hb0'h.out⟩
theorem ref_hasS (s : Sg) (w : World) : Calls Try.prog 20 #[.agg (sgA s)] w fun e w' => e = .returned (.bool (hasS s)) ∧ Below w.heap.size w w' := by
  have hb0 : Below w.heap.size w (w.alloc (.cells (sgA s) 33)) := (Below.refl _ _).alloc (Nat.le_refl _) _
  have hg := World.alloc_heap_new w (.cells (sgA s) 33)
  have c0 : (w.alloc (.cells (sgA s) 33)).cell? ⟨w.heap.size, 0, none⟩ = some (.int .i64 s.phase) := blk_cell hg rfl
  clear hg
  unfold hasS
  generalize s.phase = ph at *
  have hb0'h := Lib.hid hb0
  clear hb0
  go_enter Try.func20, Try.ntmps20
  go_wp2
  go_ret
  exact ⟨rfl, hb0'h.out⟩
end Go.Proofs.Ytoklgjlmjkhmbaa

/-
  The document's answers of layer 18: where it is.
-/
set_option linter.unusedSimpArgs false
set_option linter.unusedVariables false
set_option maxRecDepth 100000
namespace Go.Proofs.Ytoklgjlmjkhmbaa
open Go.RowKit

theorem ref_grp (s : Sg) (w : World) (h : SgOk s) (hr : SgRight s) : Calls Try.prog 47 #[.agg (sgA s)] w fun e w' => e = .returned (.int .i64 (grpS s)) ∧ Below w.heap.size w w' := by
  have hb0 : Below w.heap.size w (w.alloc (.cells (sgA s) 33)) := (Below.refl _ _).alloc (Nat.le_refl _) _
  have hg := World.alloc_heap_new w (.cells (sgA s) 33)
  have c3 : (w.alloc (.cells (sgA s) 33)).cell? ⟨w.heap.size, 3, none⟩ = some (.int .u64 s.hash) := blk_cell hg rfl
  have c5 : (w.alloc (.cells (sgA s) 33)).cell? ⟨w.heap.size, 5, none⟩ = some (.int .i64 s.grp) := blk_cell hg rfl
  have hgn : ((s.grp.toNat : Nat) : Int) = s.grp := by have := hr.grp; omega
  have A := fun w => ref_at 2 (s.hash / 128) s.grp.toNat w rfl (by have := h.hash; omega) (by have := hr.grp; omega)
  rw [hgn] at A
  have H := fun w => ref_h1 s.hash w h.hash
  have hgr : prB 2 (s.hash / 128) s.grp.toNat = grpS s := rfl
  rw [hgr] at A
  generalize grpS s = p at *
  generalize s.hash / 128 = h1 at *
  generalize s.hash = ha at *
  generalize s.grp = gr at *
  clear hgn hgr hg h hr
  have A'h := Lib.hid A
  have H'h := Lib.hid H
  have hb0'h := Lib.hid hb0
  clear A H hb0
  go_enter Try.func47, Try.ntmps47
  go_wp2
  go_quiet ((first | (go_at_call 42; exact Calls.quiet_of_same (H'h.out _)) | (go_at_call 68; exact Calls.quiet_of_same (A'h.out _))))
  go_wp2
  go_ret
  exact ⟨rfl, hb0'h.out.trans (below_drewN' _ _)⟩
theorem least_ok : ∀ m : Fin 256, m.val ≠ 0 → firstLane m.val < 8 ∧ hasM m.val (firstLane m.val) = true ∧ ∀ k : Fin 8, k.val < firstLane m.val → hasM m.val k.val = false := by decide +kernel
theorem ref_least (m : Nat) (w : World) (hm : m < 256) (h0 : m ≠ 0) : Calls Try.prog 48 #[.int .u8 m] w fun e w' => e = .returned (.int .i64 (firstLane m)) ∧ w' = w := by
  obtain ⟨hl, hy, hn⟩ := least_ok ⟨m, hm⟩ h0
  simp only at hl hy hn
  have H := fun k w hk => refHas_any m k w hm hk
  have hn' : ∀ k, k < firstLane m → hasM m k = false := fun k hk => hn ⟨k, by omega⟩ hk
  clear hn
  generalize firstLane m = L at *
  have H'h := Lib.hid H
  have hy'h := Lib.hid hy
  have hn''h := Lib.hid hn'
  clear H hy hn'
  go_enter Try.func48, Try.ntmps48
  go_wp2
  go_loopg [3] L (fun q i wr => ∃ k : Nat, k + q = L ∧ i = .int .i64 k ∧ wr = w)
  case atStart => exact ⟨0, by omega, rfl, rfl⟩
  case round =>
    obtain ⟨k, hk, rfl, rfl⟩ := hrel
    have HK := Lib.hid hk
    have hk8 : k < 8 := by omega
    have hk9 : (k : Int) < 8 := by omega
    have H1 := H'h.out k wr hk8
    clear hk
    by_cases hkL : k < L
    · rw [hn''h.out k hkL] at H1
      have H1'h := Lib.hid H1
      clear H1
      go_wp2_with (go_at_call 69; refine H1'h.out.mono ?_; rintro e w2 ⟨rfl, rfl⟩)
      go_roundg (gk - 1)
      case measure => have := HK.out; omega
      case rel => exact ⟨k + 1, by have := HK.out; omega, by go_num, rfl⟩
    · have hkk : k = L := by have := HK.out; omega
      subst hkk
      rw [hy'h.out] at H1
      have H1'h := Lib.hid H1
      clear H1
      go_wp2_with (go_at_call 69; refine H1'h.out.mono ?_; rintro e w2 ⟨rfl, rfl⟩)
      go_ret
      exact ⟨rfl, rfl⟩
def woK (m l : Nat) : Nat → Nat
  | 0 => 0
  | k + 1 => if k ≠ l ∧ hasM m k = true then woK m l k + 2 ^ k else woK m l k
theorem woK_lt (m l k : Nat) : woK m l k < 2 ^ k := by
  induction k with
  | zero => simp [woK]
  | succ k ih => unfold woK; split <;> (rw [Nat.pow_succ]; omega)
theorem woK_full : ∀ m : Fin 256, m.val ≠ 0 → woK m.val (firstLane m.val) 8 = dropM m.val := by decide +kernel
theorem ref_without (m l : Nat) (w : World) (hm : m < 256) (hl : l < 8) : Calls Try.prog 51 #[.int .u8 m, .int .i64 l] w fun e w' => e = .returned (.int .u8 (woK m l 8)) ∧ w' = w := by
  have H := fun k w hk => refHas_any m k w hm hk
  have H'h := Lib.hid H
  clear H
  go_enter Try.func51, Try.ntmps51
  go_wp2
  go_loopg [5, 7] 8 (fun q v i wr => ∃ k : Nat, k + q = 8 ∧ i = .int .i64 k ∧ v = .int .u8 (woK m l k) ∧ wr = w)
  case atStart => exact ⟨0, rfl, rfl, rfl, rfl⟩
  case round =>
    obtain ⟨k, hk, rfl, rfl, rfl⟩ := hrel
    have HK := Lib.hid hk
    have hkn : k ≤ 8 := by omega
    clear hk
    by_cases h8 : k < 8
    · have hdk : decide ((k : Int) < 8) = true := by simp; omega
      have H1 := H'h.out k wr h8
      have hlt := woK_lt m l k
      have hp : 2 ^ (k + 1) ≤ 2 ^ 8 := Nat.pow_le_pow_right (by decide) (by omega)
      have hsu : 2 ^ (k + 1) = 2 ^ k * 2 := Nat.pow_succ ..
      have W := refWith_any (woK m l k) k wr h8 (by omega)
      by_cases hkl : k = l
      · have d1 : ((k : Int) != (l : Int)) = false := by simp [hkl]
        have hs : woK m l (k + 1) = woK m l k := by rw [woK, if_neg (by simp [hkl])]
        clear hp hsu hlt
        have hs'h := Lib.hid hs
        have hkl'h := Lib.hid hkl
        have H1'h := Lib.hid H1
        have W'h := Lib.hid W
        clear hs hkl H1 W
        go_wp2
        go_roundg (gk - 1)
        case measure => have := HK.out; omega
        case rel => exact ⟨k + 1, by have := HK.out; omega, by go_num, by rw [hs'h.out], rfl⟩
      · have d1 : ((k : Int) != (l : Int)) = true := by simp; omega
        cases hf : hasM m k with
        | true =>
          have hs : woK m l (k + 1) = woK m l k + 2 ^ k := by rw [woK, if_pos ⟨hkl, hf⟩]
          rw [hf] at H1
          clear hp hsu hlt hf
          have hs'h := Lib.hid hs
          have hkl'h := Lib.hid hkl
          have H1'h := Lib.hid H1
          have W'h := Lib.hid W
          clear hs hkl H1 W
          go_wp2_with (first | (go_at_call 69; refine H1'h.out.mono ?_; rintro e w2 ⟨rfl, rfl⟩) | (go_at_call 71; refine W'h.out.mono ?_; rintro e w2 ⟨rfl, rfl⟩))
          go_roundg (gk - 1)
          case measure => have := HK.out; omega
          case rel => exact ⟨k + 1, by have := HK.out; omega, by go_num, by rw [hs'h.out]; simp, rfl⟩
        | false =>
          have hs : woK m l (k + 1) = woK m l k := by rw [woK, if_neg (by simp [hf])]
          rw [hf] at H1
          clear hp hsu hlt hf
          have hs'h := Lib.hid hs
          have hkl'h := Lib.hid hkl
          have H1'h := Lib.hid H1
          have W'h := Lib.hid W
          clear hs hkl H1 W
          go_wp2_with (first | (go_at_call 69; refine H1'h.out.mono ?_; rintro e w2 ⟨rfl, rfl⟩))
          go_roundg (gk - 1)
          case measure => have := HK.out; omega
          case rel => exact ⟨k + 1, by have := HK.out; omega, by go_num, by rw [hs'h.out], rfl⟩
    · obtain rfl : k = 8 := by omega
      go_wp2
      go_ret
      exact ⟨rfl, rfl⟩
end Go.Proofs.Ytoklgjlmjkhmbaa

/-
  The document's answers of layer 18: a step.
-/
set_option linter.unusedSimpArgs false
set_option linter.unusedVariables false
set_option maxRecDepth 100000
namespace Go.Proofs.Ytoklgjlmjkhmbaa
open Go.RowKit

theorem two_sgA (s : Sg) (w : World) : Below w.heap.size w ((w.alloc (.cells (sgA s) 33)).alloc (.cells #[.int .i64 0, .int .i64 0, .int .u64 0, .int .u64 0, .int .u64 0, .int .i64 0, .int .u64 0, .int .u8 0, .int .u64 0, .bool false] 33)) ∧ ((w.alloc (.cells (sgA s) 33)).alloc (.cells #[.int .i64 0, .int .i64 0, .int .u64 0, .int .u64 0, .int .u64 0, .int .i64 0, .int .u64 0, .int .u8 0, .int .u64 0, .bool false] 33)).heap[w.heap.size]? = some (.cells (sgA s) 33 (0, 0)) ∧ ((w.alloc (.cells (sgA s) 33)).alloc (.cells #[.int .i64 0, .int .i64 0, .int .u64 0, .int .u64 0, .int .u64 0, .int .i64 0, .int .u64 0, .int .u8 0, .int .u64 0, .bool false] 33)).heap[w.heap.size + 1]? = some (.cells #[.int .i64 0, .int .i64 0, .int .u64 0, .int .u64 0, .int .u64 0, .int .i64 0, .int .u64 0, .int .u8 0, .int .u64 0, .bool false] 33 (0, 0)) :=
  ⟨((Below.refl _ _).alloc (Nat.le_refl _) _).alloc (by simp) _, (Below.heap_alloc _ _ _ (by simp)).trans (World.alloc_heap_new _ _), heap_alloc2_new w _ _⟩
/-- Two blocks in a row: the sight, and the result. -/
structure TwoS (s : Sg) (b : Nat) (w W : World) : Prop where
  at0 : W.heap[b]? = some (.cells (sgA s) 33 (0, 0))
  at1 : W.heap[b + 1]? = some (.cells #[.int .i64 0, .int .i64 0, .int .u64 0, .int .u64 0, .int .u64 0, .int .i64 0, .int .u64 0, .int .u8 0, .int .u64 0, .bool false] 33 (0, 0))
  old : Below b w W
theorem TwoS.set {s s' : Sg} {b : Nat} {w W : World} (h : TwoS s b w W) (i : Nat) (v : Value) (he : (sgA s).setIfInBounds i v = sgA s') : TwoS s' b w (W.setCell ⟨b, i, none⟩ v) :=
  ⟨by rw [← he]; exact blk_set v h.at0, (Below.heap_setCell _ _ _ _ (show b + 1 ≠ b by omega)).trans h.at1, h.old.setCell (Nat.le_refl _) v⟩
theorem TwoS.next {s : Sg} {b : Nat} {w W W' : World} (h : TwoS s b w W) (hb : Below W.heap.size W W') : TwoS s b w W' :=
  ⟨heap_below hb h.at0 (lt_of_heap h.at0), heap_below hb h.at1 (lt_of_heap h.at1), h.old.trans (hb.mono (by have := lt_of_heap h.at0; omega))⟩
theorem TwoS.new (s : Sg) (w : World) : TwoS s w.heap.size w ((w.alloc (.cells (sgA s) 33)).alloc (.cells #[.int .i64 0, .int .i64 0, .int .u64 0, .int .u64 0, .int .u64 0, .int .i64 0, .int .u64 0, .int .u8 0, .int .u64 0, .bool false] 33)) := ⟨(two_sgA s w).2.1, (two_sgA s w).2.2, (two_sgA s w).1⟩

/-- All that a walk asks of the first block. -/
def SgF (s : Sg) (b : Nat) (W : World) : Prop := (SgC s b W) ∧ ∀ i, W.frozen? ⟨b, i, none⟩ = false
theorem TwoS.facts {s : Sg} {b : Nat} {w W : World} (h : TwoS s b w W) : SgF s b W := ⟨SgC.of h.at0, fun i => blk_free i h.at0⟩

set_option maxHeartbeats 4000000 in
theorem ref_on (s : Sg) (w : World) (hgr : 0 ≤ s.grp ∧ s.grp ≤ 1) (hct : s.ctrl < 2 ^ 64) : Calls Try.prog 50 #[.agg (sgA s)] w fun e w' => e = .returned (.agg (sgA (onS s))) ∧ Below w.heap.size w w' := by
  generalize hr : onS s = s1
  go_enter Try.func50, Try.ntmps50
  go_upto_region 2 with fail
  have hT0 := TwoS.new s w
  generalize hW : ((w.alloc (.cells (sgA s) 33)).alloc (.cells #[.int .i64 0, .int .i64 0, .int .u64 0, .int .u64 0, .int .u64 0, .int .i64 0, .int .u64 0, .int .u8 0, .int .u64 0, .bool false] 33)) = W at hT0 ⊢
  clear hW
  obtain ⟨⟨c0, c1, c2, c3, c4, c5, c6, c7, c8, c9⟩, f⟩ := hT0.facts
  have f0 := f 0
  have f5 := f 5
  have E := fun w => refEqual_any s.ctrl 128 w hct (by decide)
  by_cases hl : s.left = 0
  · have d1 : ((s.left : Int) != 0) = false := by simp [hl]
    by_cases he : equalM s.ctrl 128 = 0
    · have d2 : ((equalM s.ctrl 128 : Int) != 0) = false := by simp [he]
      generalize hm : equalM s.ctrl 128 = m at E d2
      by_cases h1 : s.grp = 1
      · have d3 : (s.grp == 1) = true := by simp [h1]
        have hs1 : ({ s with phase := 4 } : Sg) = s1 := by rw [← hr]; unfold onS; rw [if_neg (by simpa using hl), if_pos (.inr h1)]
        clear hr h1 he hl hm
        have hT0'h := Lib.hid hT0
        have hs1'h := Lib.hid hs1
        have E'h := Lib.hid E
        clear hT0 hs1 E
        go_upto_region 6 with (go_at_call 44; refine (E'h.out _).mono ?_; rintro e w2 ⟨rfl, hb2⟩; have hT2 := hT0'h.out.next hb2; have hf2 := hT2.facts; obtain ⟨⟨d0, _, _, _, _, d5, _, _, _, _⟩, hf2⟩ := hf2; have g0 := hf2 0; have g5 := hf2 5; clear hf2; have hT2'h := Lib.hid hT2; clear hT2)
        have hT := (hT2'h.out).set 0 (.int .i64 4) (set_phase s 4)
        rw [hs1'h.out] at hT
        clear d0 d5 g0 g5 c0 c1 c2 c3 c4 c5 c6 c7 c8 c9 f
        have hT'h := Lib.hid hT
        clear hT
        go_wp2_with (first | (refine wpList_load_row rfl _ _ rfl w.heap.size rfl 33 _ (0, 0) _ hT'h.out.at0 Try.underlying33 rfl infoSg ?_) | (refine wpList_store_row rfl _ _ _ rfl (w.heap.size + 1) (sgA s1) rfl rfl 33 _ hT'h.out.at1 infoSg rfl (sgA_one _) ?_))
        have hR := setRow_heap _ _ _ (sgA s1) _ _ hT'h.out.at1
        have hB3 := below_setRow' hT'h.out.old (show w.heap.size ≤ w.heap.size + 1 by omega) (sgA s1)
        obtain ⟨c0, c1, c2, c3, c4, c5, c6, c7, c8, c9⟩ := SgC.of (s := s1) hR
        change bodyPost _ _ _ _ _ (World.setRow (World.setCell w2 ⟨w.heap.size, 0, none⟩ (.int .i64 4)) (w.heap.size + 1) (sgA s1))
        generalize World.setRow (World.setCell w2 ⟨w.heap.size, 0, none⟩ (.int .i64 4)) (w.heap.size + 1) (sgA s1) = w9 at *
        refine bodyPost_ret (v := .agg (sgA s1)) ?_ rfl ⟨rfl, hB3⟩
        simp [results, Try.results50, go_sem, c0, c1, c2, c3, c4, c5, c6, c7, c8, c9, sgA]
      · have d3 : (s.grp == 1) = false := by simpa using h1
        have hb1 : s.grp ≤ 0 := by omega
        have hb0 := hgr.1
        have hs1 : ({ s with phase := 1, grp := s.grp + 1 } : Sg) = s1 := by rw [← hr]; unfold onS; rw [if_neg (by simpa using hl), if_neg (by rintro (h | h); exact h he; exact h1 h)]
        clear hr h1 he hl hm
        have hT0'h := Lib.hid hT0
        have hs1'h := Lib.hid hs1
        have E'h := Lib.hid E
        clear hT0 hs1 E
        go_upto_region 6 with (go_at_call 44; refine (E'h.out _).mono ?_; rintro e w2 ⟨rfl, hb2⟩; have hT2 := hT0'h.out.next hb2; have hf2 := hT2.facts; obtain ⟨⟨d0, _, _, _, _, d5, _, _, _, _⟩, hf2⟩ := hf2; have g0 := hf2 0; have g5 := hf2 5; clear hf2; have hT2'h := Lib.hid hT2; clear hT2)
        have hT := ((hT2'h.out).set 0 (.int .i64 1) (set_phase s 1)).set 5 (.int .i64 (s.grp + 1)) (set_grp { s with phase := 1 } (s.grp + 1))
        rw [hs1'h.out] at hT
        clear d0 d5 g0 g5 c0 c1 c2 c3 c4 c5 c6 c7 c8 c9 f
        have hT'h := Lib.hid hT
        clear hT
        go_wp2_with (first | (refine wpList_load_row rfl _ _ rfl w.heap.size rfl 33 _ (0, 0) _ hT'h.out.at0 Try.underlying33 rfl infoSg ?_) | (refine wpList_store_row rfl _ _ _ rfl (w.heap.size + 1) (sgA s1) rfl rfl 33 _ hT'h.out.at1 infoSg rfl (sgA_one _) ?_))
        have hR := setRow_heap _ _ _ (sgA s1) _ _ hT'h.out.at1
        have hB3 := below_setRow' hT'h.out.old (show w.heap.size ≤ w.heap.size + 1 by omega) (sgA s1)
        obtain ⟨c0, c1, c2, c3, c4, c5, c6, c7, c8, c9⟩ := SgC.of (s := s1) hR
        change bodyPost _ _ _ _ _ (World.setRow (World.setCell (World.setCell w2 ⟨w.heap.size, 0, none⟩ (.int .i64 1)) ⟨w.heap.size, 5, none⟩ (.int .i64 (s.grp + 1))) (w.heap.size + 1) (sgA s1))
        generalize World.setRow (World.setCell (World.setCell w2 ⟨w.heap.size, 0, none⟩ (.int .i64 1)) ⟨w.heap.size, 5, none⟩ (.int .i64 (s.grp + 1))) (w.heap.size + 1) (sgA s1) = w9 at *
        refine bodyPost_ret (v := .agg (sgA s1)) ?_ rfl ⟨rfl, hB3⟩
        simp [results, Try.results50, go_sem, c0, c1, c2, c3, c4, c5, c6, c7, c8, c9, sgA]
    · have d2 : ((equalM s.ctrl 128 : Int) != 0) = true := by simp; omega
      generalize hm : equalM s.ctrl 128 = m at E d2
      have hs1 : ({ s with phase := 4 } : Sg) = s1 := by rw [← hr]; unfold onS; rw [if_neg (by simpa using hl), if_pos (.inl he)]
      clear hr he hl hm
      have hT0'h := Lib.hid hT0
      have hs1'h := Lib.hid hs1
      have E'h := Lib.hid E
      clear hT0 hs1 E
      go_upto_region 6 with (go_at_call 44; refine (E'h.out _).mono ?_; rintro e w2 ⟨rfl, hb2⟩; have hT2 := hT0'h.out.next hb2; have hf2 := hT2.facts; obtain ⟨⟨d0, _, _, _, _, d5, _, _, _, _⟩, hf2⟩ := hf2; have g0 := hf2 0; have g5 := hf2 5; clear hf2; have hT2'h := Lib.hid hT2; clear hT2)
      have hT := (hT2'h.out).set 0 (.int .i64 4) (set_phase s 4)
      rw [hs1'h.out] at hT
      clear d0 d5 g0 g5 c0 c1 c2 c3 c4 c5 c6 c7 c8 c9 f
      have hT'h := Lib.hid hT
      clear hT
      go_wp2_with (first | (refine wpList_load_row rfl _ _ rfl w.heap.size rfl 33 _ (0, 0) _ hT'h.out.at0 Try.underlying33 rfl infoSg ?_) | (refine wpList_store_row rfl _ _ _ rfl (w.heap.size + 1) (sgA s1) rfl rfl 33 _ hT'h.out.at1 infoSg rfl (sgA_one _) ?_))
      have hR := setRow_heap _ _ _ (sgA s1) _ _ hT'h.out.at1
      have hB3 := below_setRow' hT'h.out.old (show w.heap.size ≤ w.heap.size + 1 by omega) (sgA s1)
      obtain ⟨c0, c1, c2, c3, c4, c5, c6, c7, c8, c9⟩ := SgC.of (s := s1) hR
      change bodyPost _ _ _ _ _ (World.setRow (World.setCell w2 ⟨w.heap.size, 0, none⟩ (.int .i64 4)) (w.heap.size + 1) (sgA s1))
      generalize World.setRow (World.setCell w2 ⟨w.heap.size, 0, none⟩ (.int .i64 4)) (w.heap.size + 1) (sgA s1) = w9 at *
      refine bodyPost_ret (v := .agg (sgA s1)) ?_ rfl ⟨rfl, hB3⟩
      simp [results, Try.results50, go_sem, c0, c1, c2, c3, c4, c5, c6, c7, c8, c9, sgA]
  · have d1 : ((s.left : Int) != 0) = true := by simp; omega
    have hs1 : ({ s with phase := 2 } : Sg) = s1 := by rw [← hr]; unfold onS; rw [if_pos hl]
    clear hr hl
    have hT0'h := Lib.hid hT0
    have hs1'h := Lib.hid hs1
    have E'h := Lib.hid E
    clear hT0 hs1 E
    go_upto_region 6 with fail
    have hT := (hT0'h.out).set 0 (.int .i64 2) (set_phase s 2)
    rw [hs1'h.out] at hT
    clear c0 c1 c2 c3 c4 c5 c6 c7 c8 c9 f
    have hT'h := Lib.hid hT
    clear hT
    go_wp2_with (first | (refine wpList_load_row rfl _ _ rfl w.heap.size rfl 33 _ (0, 0) _ hT'h.out.at0 Try.underlying33 rfl infoSg ?_) | (refine wpList_store_row rfl _ _ _ rfl (w.heap.size + 1) (sgA s1) rfl rfl 33 _ hT'h.out.at1 infoSg rfl (sgA_one _) ?_))
    have hR := setRow_heap _ _ _ (sgA s1) _ _ hT'h.out.at1
    have hB3 := below_setRow' hT'h.out.old (show w.heap.size ≤ w.heap.size + 1 by omega) (sgA s1)
    obtain ⟨c0, c1, c2, c3, c4, c5, c6, c7, c8, c9⟩ := SgC.of (s := s1) hR
    change bodyPost _ _ _ _ _ (World.setRow (World.setCell W ⟨w.heap.size, 0, none⟩ (.int .i64 2)) (w.heap.size + 1) (sgA s1))
    generalize World.setRow (World.setCell W ⟨w.heap.size, 0, none⟩ (.int .i64 2)) (w.heap.size + 1) (sgA s1) = w9 at *
    refine bodyPost_ret (v := .agg (sgA s1)) ?_ rfl ⟨rfl, hB3⟩
    simp [results, Try.results50, go_sem, c0, c1, c2, c3, c4, c5, c6, c7, c8, c9, sgA]

end Go.Proofs.Ytoklgjlmjkhmbaa

/-
  The document's answers of layer 18: a load.
-/
set_option linter.unusedSimpArgs false
set_option linter.unusedVariables false
set_option maxRecDepth 100000
namespace Go.Proofs.Ytoklgjlmjkhmbaa
open Go.RowKit

set_option maxHeartbeats 4000000 in
theorem rtake0 (s : Sg) (x : Nat) (w : World) (h : SgOk s) (hx : x < 2 ^ 64) (hp : s.phase = 0) (ho : x % 2 = 1) : Calls Try.prog 25 #[.agg (sgA s), .int .u64 x] w fun e w' => e = .returned (.agg (sgA (takeS s x))) ∧ Below w.heap.size w w' := by
  have e0 : (s.phase == 0) = true := by simp [hp]
  have hox : (((x : Int) % 2) == 1) = true := by simp; omega
  have hot : ((x : Int).tmod 2 == 1) = true := by rw [Int.tmod_eq_emod_of_nonneg (by omega)]; exact hox
  generalize hs1 : takeS s x = s1
  go_enter Try.func25, Try.ntmps25
  go_upto_region 1 with fail
  have hT0 := TwoS.new s w
  generalize hW : ((w.alloc (.cells (sgA s) 33)).alloc (.cells #[.int .i64 0, .int .i64 0, .int .u64 0, .int .u64 0, .int .u64 0, .int .i64 0, .int .u64 0, .int .u8 0, .int .u64 0, .bool false] 33)) = W at hT0 ⊢
  clear hW
  obtain ⟨⟨c0, c1, c2, c3, c4, c5, c6, c7, c8, c9⟩, f⟩ := hT0.facts
  have f0 := f 0
  have f4 := f 4
  have f5 := f 5
  have f6 := f 6
  have f7 := f 7
  have f8 := f 8
  have f9 := f 9
  rw [takeS, if_pos hp, if_pos ho] at hs1
  have hT0'h := Lib.hid hT0
  have hs1'h := Lib.hid hs1
  have h'h := Lib.hid h
  have hx'h := Lib.hid hx
  clear hT0 hs1 h hx
  go_upto_region 5 with fail
  have hT := (hT0'h.out).set 0 (.int .i64 6) (set_phase s 6)
  rw [hs1'h.out] at hT
  clear c0 c1 c2 c3 c4 c5 c6 c7 c8 c9 f f0 f4 f5 f6 f7 f8 f9
  have hT'h := Lib.hid hT
  clear hT
  go_wp2_with (first | (refine wpList_load_row rfl _ _ rfl w.heap.size rfl 33 _ (0, 0) _ hT'h.out.at0 Try.underlying33 rfl infoSg ?_) | (refine wpList_store_row rfl _ _ _ rfl (w.heap.size + 1) (sgA s1) rfl rfl 33 _ hT'h.out.at1 infoSg rfl (sgA_one _) ?_))
  have hR := setRow_heap _ _ _ (sgA s1) _ _ hT'h.out.at1
  have hB3 := below_setRow' hT'h.out.old (show w.heap.size ≤ w.heap.size + 1 by omega) (sgA s1)
  obtain ⟨c0, c1, c2, c3, c4, c5, c6, c7, c8, c9⟩ := SgC.of (s := s1) hR
  change bodyPost _ _ _ _ _ (World.setRow (World.setCell W ⟨w.heap.size, 0, none⟩ (.int .i64 6)) (w.heap.size + 1) (sgA s1))
  generalize World.setRow (World.setCell W ⟨w.heap.size, 0, none⟩ (.int .i64 6)) (w.heap.size + 1) (sgA s1) = w9 at *
  refine bodyPost_ret (v := .agg (sgA s1)) ?_ rfl ⟨rfl, hB3⟩
  simp [results, Try.results25, go_sem, c0, c1, c2, c3, c4, c5, c6, c7, c8, c9, sgA]

set_option maxHeartbeats 4000000 in
theorem rtake0b (s : Sg) (x : Nat) (w : World) (h : SgOk s) (hx : x < 2 ^ 64) (hp : s.phase = 0) (ho : ¬ x % 2 = 1) : Calls Try.prog 25 #[.agg (sgA s), .int .u64 x] w fun e w' => e = .returned (.agg (sgA (takeS s x))) ∧ Below w.heap.size w w' := by
  have e0 : (s.phase == 0) = true := by simp [hp]
  have hox : (((x : Int) % 2) == 1) = false := by simp; omega
  have hot : ((x : Int).tmod 2 == 1) = false := by rw [Int.tmod_eq_emod_of_nonneg (by omega)]; exact hox
  generalize hs1 : takeS s x = s1
  go_enter Try.func25, Try.ntmps25
  go_upto_region 1 with fail
  have hT0 := TwoS.new s w
  generalize hW : ((w.alloc (.cells (sgA s) 33)).alloc (.cells #[.int .i64 0, .int .i64 0, .int .u64 0, .int .u64 0, .int .u64 0, .int .i64 0, .int .u64 0, .int .u8 0, .int .u64 0, .bool false] 33)) = W at hT0 ⊢
  clear hW
  obtain ⟨⟨c0, c1, c2, c3, c4, c5, c6, c7, c8, c9⟩, f⟩ := hT0.facts
  have f0 := f 0
  have f4 := f 4
  have f5 := f 5
  have f6 := f 6
  have f7 := f 7
  have f8 := f 8
  have f9 := f 9
  rw [takeS, if_pos hp, if_neg ho] at hs1
  have hT0'h := Lib.hid hT0
  have hs1'h := Lib.hid hs1
  have h'h := Lib.hid h
  have hx'h := Lib.hid hx
  clear hT0 hs1 h hx
  go_upto_region 22 with fail
  have hT := (((hT0'h.out).set 0 (.int .i64 1) (set_phase s 1)).set 4 (.int .u64 x) (set_began { s with phase := 1 } x)).set 5 (.int .i64 0) (set_grp { s with phase := 1, began := x } 0)
  rw [hs1'h.out] at hT
  clear c0 c1 c2 c3 c4 c5 c6 c7 c8 c9 f f0 f4 f5 f6 f7 f8 f9
  have hT'h := Lib.hid hT
  clear hT
  go_wp2_with (first | (refine wpList_load_row rfl _ _ rfl w.heap.size rfl 33 _ (0, 0) _ hT'h.out.at0 Try.underlying33 rfl infoSg ?_) | (refine wpList_store_row rfl _ _ _ rfl (w.heap.size + 1) (sgA s1) rfl rfl 33 _ hT'h.out.at1 infoSg rfl (sgA_one _) ?_))
  have hR := setRow_heap _ _ _ (sgA s1) _ _ hT'h.out.at1
  have hB3 := below_setRow' hT'h.out.old (show w.heap.size ≤ w.heap.size + 1 by omega) (sgA s1)
  obtain ⟨c0, c1, c2, c3, c4, c5, c6, c7, c8, c9⟩ := SgC.of (s := s1) hR
  change bodyPost _ _ _ _ _ (World.setRow (World.setCell (World.setCell (World.setCell W ⟨w.heap.size, 0, none⟩ (.int .i64 1)) ⟨w.heap.size, 4, none⟩ (.int .u64 x)) ⟨w.heap.size, 5, none⟩ (.int .i64 0)) (w.heap.size + 1) (sgA s1))
  generalize World.setRow (World.setCell (World.setCell (World.setCell W ⟨w.heap.size, 0, none⟩ (.int .i64 1)) ⟨w.heap.size, 4, none⟩ (.int .u64 x)) ⟨w.heap.size, 5, none⟩ (.int .i64 0)) (w.heap.size + 1) (sgA s1) = w9 at *
  refine bodyPost_ret (v := .agg (sgA s1)) ?_ rfl ⟨rfl, hB3⟩
  simp [results, Try.results25, go_sem, c0, c1, c2, c3, c4, c5, c6, c7, c8, c9, sgA]

set_option maxHeartbeats 4000000 in
theorem rtake2 (s : Sg) (x : Nat) (w : World) (h : SgOk s) (hx : x < 2 ^ 64) (hp : s.phase = 2) (ho : x = s.key) : Calls Try.prog 25 #[.agg (sgA s), .int .u64 x] w fun e w' => e = .returned (.agg (sgA (takeS s x))) ∧ Below w.heap.size w w' := by
  have e0 : (s.phase == 0) = false := by simp [hp]
  have e1 : (s.phase == 1) = false := by simp [hp]
  have e2 : (s.phase == 2) = true := by simp [hp]
  have hox : ((x : Int) == (s.key : Int)) = true := by simp; omega
  generalize hs1 : takeS s x = s1
  go_enter Try.func25, Try.ntmps25
  go_upto_region 1 with fail
  have hT0 := TwoS.new s w
  generalize hW : ((w.alloc (.cells (sgA s) 33)).alloc (.cells #[.int .i64 0, .int .i64 0, .int .u64 0, .int .u64 0, .int .u64 0, .int .i64 0, .int .u64 0, .int .u8 0, .int .u64 0, .bool false] 33)) = W at hT0 ⊢
  clear hW
  obtain ⟨⟨c0, c1, c2, c3, c4, c5, c6, c7, c8, c9⟩, f⟩ := hT0.facts
  have f0 := f 0
  have f4 := f 4
  have f5 := f 5
  have f6 := f 6
  have f7 := f 7
  have f8 := f 8
  have f9 := f 9
  rw [takeS, if_neg (by omega), if_neg (by omega), if_pos hp, if_pos ho] at hs1
  have hT0'h := Lib.hid hT0
  have hs1'h := Lib.hid hs1
  have h'h := Lib.hid h
  have hx'h := Lib.hid hx
  clear hT0 hs1 h hx
  go_upto_region 13 with fail
  have hT := (hT0'h.out).set 0 (.int .i64 3) (set_phase s 3)
  rw [hs1'h.out] at hT
  clear c0 c1 c2 c3 c4 c5 c6 c7 c8 c9 f f0 f4 f5 f6 f7 f8 f9
  have hT'h := Lib.hid hT
  clear hT
  go_wp2_with (first | (refine wpList_load_row rfl _ _ rfl w.heap.size rfl 33 _ (0, 0) _ hT'h.out.at0 Try.underlying33 rfl infoSg ?_) | (refine wpList_store_row rfl _ _ _ rfl (w.heap.size + 1) (sgA s1) rfl rfl 33 _ hT'h.out.at1 infoSg rfl (sgA_one _) ?_))
  have hR := setRow_heap _ _ _ (sgA s1) _ _ hT'h.out.at1
  have hB3 := below_setRow' hT'h.out.old (show w.heap.size ≤ w.heap.size + 1 by omega) (sgA s1)
  obtain ⟨c0, c1, c2, c3, c4, c5, c6, c7, c8, c9⟩ := SgC.of (s := s1) hR
  change bodyPost _ _ _ _ _ (World.setRow (World.setCell W ⟨w.heap.size, 0, none⟩ (.int .i64 3)) (w.heap.size + 1) (sgA s1))
  generalize World.setRow (World.setCell W ⟨w.heap.size, 0, none⟩ (.int .i64 3)) (w.heap.size + 1) (sgA s1) = w9 at *
  refine bodyPost_ret (v := .agg (sgA s1)) ?_ rfl ⟨rfl, hB3⟩
  simp [results, Try.results25, go_sem, c0, c1, c2, c3, c4, c5, c6, c7, c8, c9, sgA]

set_option maxHeartbeats 4000000 in
theorem rtake3 (s : Sg) (x : Nat) (w : World) (h : SgOk s) (hx : x < 2 ^ 64) (hp : s.phase = 3) : Calls Try.prog 25 #[.agg (sgA s), .int .u64 x] w fun e w' => e = .returned (.agg (sgA (takeS s x))) ∧ Below w.heap.size w w' := by
  have e0 : (s.phase == 0) = false := by simp [hp]
  have e1 : (s.phase == 1) = false := by simp [hp]
  have e2 : (s.phase == 2) = false := by simp [hp]
  have e3 : (s.phase == 3) = true := by simp [hp]
  generalize hs1 : takeS s x = s1
  go_enter Try.func25, Try.ntmps25
  go_upto_region 1 with fail
  have hT0 := TwoS.new s w
  generalize hW : ((w.alloc (.cells (sgA s) 33)).alloc (.cells #[.int .i64 0, .int .i64 0, .int .u64 0, .int .u64 0, .int .u64 0, .int .i64 0, .int .u64 0, .int .u8 0, .int .u64 0, .bool false] 33)) = W at hT0 ⊢
  clear hW
  obtain ⟨⟨c0, c1, c2, c3, c4, c5, c6, c7, c8, c9⟩, f⟩ := hT0.facts
  have f0 := f 0
  have f4 := f 4
  have f5 := f 5
  have f6 := f 6
  have f7 := f 7
  have f8 := f 8
  have f9 := f 9
  rw [takeS, if_neg (by omega), if_neg (by omega), if_neg (by omega), if_pos hp] at hs1
  have hT0'h := Lib.hid hT0
  have hs1'h := Lib.hid hs1
  have h'h := Lib.hid h
  have hx'h := Lib.hid hx
  clear hT0 hs1 h hx
  go_upto_region 22 with fail
  have hT := (((hT0'h.out).set 8 (.int .u64 x) (set_value s x)).set 9 (.bool true) (set_found { s with value := x } true)).set 0 (.int .i64 4) (set_phase { s with value := x, found := true } 4)
  rw [hs1'h.out] at hT
  clear c0 c1 c2 c3 c4 c5 c6 c7 c8 c9 f f0 f4 f5 f6 f7 f8 f9
  have hT'h := Lib.hid hT
  clear hT
  go_wp2_with (first | (refine wpList_load_row rfl _ _ rfl w.heap.size rfl 33 _ (0, 0) _ hT'h.out.at0 Try.underlying33 rfl infoSg ?_) | (refine wpList_store_row rfl _ _ _ rfl (w.heap.size + 1) (sgA s1) rfl rfl 33 _ hT'h.out.at1 infoSg rfl (sgA_one _) ?_))
  have hR := setRow_heap _ _ _ (sgA s1) _ _ hT'h.out.at1
  have hB3 := below_setRow' hT'h.out.old (show w.heap.size ≤ w.heap.size + 1 by omega) (sgA s1)
  obtain ⟨c0, c1, c2, c3, c4, c5, c6, c7, c8, c9⟩ := SgC.of (s := s1) hR
  change bodyPost _ _ _ _ _ (World.setRow (World.setCell (World.setCell (World.setCell W ⟨w.heap.size, 8, none⟩ (.int .u64 x)) ⟨w.heap.size, 9, none⟩ (.bool true)) ⟨w.heap.size, 0, none⟩ (.int .i64 4)) (w.heap.size + 1) (sgA s1))
  generalize World.setRow (World.setCell (World.setCell (World.setCell W ⟨w.heap.size, 8, none⟩ (.int .u64 x)) ⟨w.heap.size, 9, none⟩ (.bool true)) ⟨w.heap.size, 0, none⟩ (.int .i64 4)) (w.heap.size + 1) (sgA s1) = w9 at *
  refine bodyPost_ret (v := .agg (sgA s1)) ?_ rfl ⟨rfl, hB3⟩
  simp [results, Try.results25, go_sem, c0, c1, c2, c3, c4, c5, c6, c7, c8, c9, sgA]

set_option maxHeartbeats 4000000 in
theorem rtake4 (s : Sg) (x : Nat) (w : World) (h : SgOk s) (hx : x < 2 ^ 64) (hp : s.phase = 4) (ho : x = s.began) : Calls Try.prog 25 #[.agg (sgA s), .int .u64 x] w fun e w' => e = .returned (.agg (sgA (takeS s x))) ∧ Below w.heap.size w w' := by
  have e0 : (s.phase == 0) = false := by simp [hp]
  have e1 : (s.phase == 1) = false := by simp [hp]
  have e2 : (s.phase == 2) = false := by simp [hp]
  have e3 : (s.phase == 3) = false := by simp [hp]
  have e4 : (s.phase == 4) = true := by simp [hp]
  have hox : ((x : Int) == (s.began : Int)) = true := by simp; omega
  generalize hs1 : takeS s x = s1
  go_enter Try.func25, Try.ntmps25
  go_upto_region 1 with fail
  have hT0 := TwoS.new s w
  generalize hW : ((w.alloc (.cells (sgA s) 33)).alloc (.cells #[.int .i64 0, .int .i64 0, .int .u64 0, .int .u64 0, .int .u64 0, .int .i64 0, .int .u64 0, .int .u8 0, .int .u64 0, .bool false] 33)) = W at hT0 ⊢
  clear hW
  obtain ⟨⟨c0, c1, c2, c3, c4, c5, c6, c7, c8, c9⟩, f⟩ := hT0.facts
  have f0 := f 0
  have f4 := f 4
  have f5 := f 5
  have f6 := f 6
  have f7 := f 7
  have f8 := f 8
  have f9 := f 9
  rw [takeS, if_neg (by omega), if_neg (by omega), if_neg (by omega), if_neg (by omega), if_pos ho] at hs1
  have hT0'h := Lib.hid hT0
  have hs1'h := Lib.hid hs1
  have h'h := Lib.hid h
  have hx'h := Lib.hid hx
  clear hT0 hs1 h hx
  go_upto_region 22 with fail
  have hT := ((hT0'h.out).set 0 (.int .i64 6) (set_phase s 6)).set 0 (.int .i64 5) (set_phase { s with phase := 6 } 5)
  rw [hs1'h.out] at hT
  clear c0 c1 c2 c3 c4 c5 c6 c7 c8 c9 f f0 f4 f5 f6 f7 f8 f9
  have hT'h := Lib.hid hT
  clear hT
  go_wp2_with (first | (refine wpList_load_row rfl _ _ rfl w.heap.size rfl 33 _ (0, 0) _ hT'h.out.at0 Try.underlying33 rfl infoSg ?_) | (refine wpList_store_row rfl _ _ _ rfl (w.heap.size + 1) (sgA s1) rfl rfl 33 _ hT'h.out.at1 infoSg rfl (sgA_one _) ?_))
  have hR := setRow_heap _ _ _ (sgA s1) _ _ hT'h.out.at1
  have hB3 := below_setRow' hT'h.out.old (show w.heap.size ≤ w.heap.size + 1 by omega) (sgA s1)
  obtain ⟨c0, c1, c2, c3, c4, c5, c6, c7, c8, c9⟩ := SgC.of (s := s1) hR
  change bodyPost _ _ _ _ _ (World.setRow (World.setCell (World.setCell W ⟨w.heap.size, 0, none⟩ (.int .i64 6)) ⟨w.heap.size, 0, none⟩ (.int .i64 5)) (w.heap.size + 1) (sgA s1))
  generalize World.setRow (World.setCell (World.setCell W ⟨w.heap.size, 0, none⟩ (.int .i64 6)) ⟨w.heap.size, 0, none⟩ (.int .i64 5)) (w.heap.size + 1) (sgA s1) = w9 at *
  refine bodyPost_ret (v := .agg (sgA s1)) ?_ rfl ⟨rfl, hB3⟩
  simp [results, Try.results25, go_sem, c0, c1, c2, c3, c4, c5, c6, c7, c8, c9, sgA]

set_option maxHeartbeats 4000000 in
theorem rtake4b (s : Sg) (x : Nat) (w : World) (h : SgOk s) (hx : x < 2 ^ 64) (hp : s.phase = 4) (ho : ¬ x = s.began) : Calls Try.prog 25 #[.agg (sgA s), .int .u64 x] w fun e w' => e = .returned (.agg (sgA (takeS s x))) ∧ Below w.heap.size w w' := by
  have e0 : (s.phase == 0) = false := by simp [hp]
  have e1 : (s.phase == 1) = false := by simp [hp]
  have e2 : (s.phase == 2) = false := by simp [hp]
  have e3 : (s.phase == 3) = false := by simp [hp]
  have e4 : (s.phase == 4) = true := by simp [hp]
  have hox : ((x : Int) == (s.began : Int)) = false := by simp; omega
  generalize hs1 : takeS s x = s1
  go_enter Try.func25, Try.ntmps25
  go_upto_region 1 with fail
  have hT0 := TwoS.new s w
  generalize hW : ((w.alloc (.cells (sgA s) 33)).alloc (.cells #[.int .i64 0, .int .i64 0, .int .u64 0, .int .u64 0, .int .u64 0, .int .i64 0, .int .u64 0, .int .u8 0, .int .u64 0, .bool false] 33)) = W at hT0 ⊢
  clear hW
  obtain ⟨⟨c0, c1, c2, c3, c4, c5, c6, c7, c8, c9⟩, f⟩ := hT0.facts
  have f0 := f 0
  have f4 := f 4
  have f5 := f 5
  have f6 := f 6
  have f7 := f 7
  have f8 := f 8
  have f9 := f 9
  rw [takeS, if_neg (by omega), if_neg (by omega), if_neg (by omega), if_neg (by omega), if_neg ho] at hs1
  have hT0'h := Lib.hid hT0
  have hs1'h := Lib.hid hs1
  have h'h := Lib.hid h
  have hx'h := Lib.hid hx
  clear hT0 hs1 h hx
  go_upto_region 22 with fail
  have hT := (hT0'h.out).set 0 (.int .i64 6) (set_phase s 6)
  rw [hs1'h.out] at hT
  clear c0 c1 c2 c3 c4 c5 c6 c7 c8 c9 f f0 f4 f5 f6 f7 f8 f9
  have hT'h := Lib.hid hT
  clear hT
  go_wp2_with (first | (refine wpList_load_row rfl _ _ rfl w.heap.size rfl 33 _ (0, 0) _ hT'h.out.at0 Try.underlying33 rfl infoSg ?_) | (refine wpList_store_row rfl _ _ _ rfl (w.heap.size + 1) (sgA s1) rfl rfl 33 _ hT'h.out.at1 infoSg rfl (sgA_one _) ?_))
  have hR := setRow_heap _ _ _ (sgA s1) _ _ hT'h.out.at1
  have hB3 := below_setRow' hT'h.out.old (show w.heap.size ≤ w.heap.size + 1 by omega) (sgA s1)
  obtain ⟨c0, c1, c2, c3, c4, c5, c6, c7, c8, c9⟩ := SgC.of (s := s1) hR
  change bodyPost _ _ _ _ _ (World.setRow (World.setCell W ⟨w.heap.size, 0, none⟩ (.int .i64 6)) (w.heap.size + 1) (sgA s1))
  generalize World.setRow (World.setCell W ⟨w.heap.size, 0, none⟩ (.int .i64 6)) (w.heap.size + 1) (sgA s1) = w9 at *
  refine bodyPost_ret (v := .agg (sgA s1)) ?_ rfl ⟨rfl, hB3⟩
  simp [results, Try.results25, go_sem, c0, c1, c2, c3, c4, c5, c6, c7, c8, c9, sgA]

end Go.Proofs.Ytoklgjlmjkhmbaa

/-
  The document's answers of layer 18: a load, with calls.
-/
set_option linter.unusedSimpArgs false
set_option linter.unusedVariables false
set_option maxRecDepth 100000
namespace Go.Proofs.Ytoklgjlmjkhmbaa
open Go.RowKit

set_option maxHeartbeats 4000000 in
theorem rtake1 (s : Sg) (x : Nat) (w : World) (h : SgOk s) (hr : SgRight s) (hx : x < 2 ^ 64) (hp : s.phase = 1) : Calls Try.prog 25 #[.agg (sgA s), .int .u64 x] w fun e w' => e = .returned (.agg (sgA (takeS s x))) ∧ Below w.heap.size w w' := by
  have e0 : (s.phase == 0) = false := by simp [hp]
  have e1 : (s.phase == 1) = true := by simp [hp]
  have H := fun w => ref_h2 s.hash w h.hash
  have E := fun w => refEqual_any x (s.hash % 128) w hx (by omega)
  have O := fun w => ref_on { s with ctrl := x, left := equalM x (s.hash % 128) } w hr.grp hx
  have hfin : takeS s x = onS { s with ctrl := x, left := equalM x (s.hash % 128) } := by rw [takeS, if_neg (by omega), if_pos hp]
  rw [hfin]
  clear hfin
  generalize equalM x (s.hash % 128) = m at *
  generalize hs0 : ({ s with ctrl := x, left := m } : Sg) = s0 at *
  generalize onS s0 = s1 at *
  go_enter Try.func25, Try.ntmps25
  go_upto_region 1 with fail
  have hT0 := TwoS.new s w
  generalize hW : ((w.alloc (.cells (sgA s) 33)).alloc (.cells #[.int .i64 0, .int .i64 0, .int .u64 0, .int .u64 0, .int .u64 0, .int .i64 0, .int .u64 0, .int .u8 0, .int .u64 0, .bool false] 33)) = W at hT0 ⊢
  clear hW
  obtain ⟨⟨c0, c1, c2, c3, c4, c5, c6, c7, c8, c9⟩, f⟩ := hT0.facts
  have hT0'h := Lib.hid hT0
  have hs0'h := Lib.hid hs0
  have h'h := Lib.hid h
  have hx'h := Lib.hid hx
  have hr'h := Lib.hid hr
  have E'h := Lib.hid E
  have O'h := Lib.hid O
  have H'h := Lib.hid H
  clear hT0 hs0 h hx hr E O H
  go_upto_region 9 with (first | (go_at_call 45; refine (H'h.out _).mono ?_; rintro e w4 ⟨rfl, rfl⟩) | (go_at_call 44; refine (E'h.out _).mono ?_; rintro e w2 ⟨rfl, hb2⟩; have hT2 := hT0'h.out.next hb2; have hf2 := hT2.facts; obtain ⟨⟨d0, d1, d2, d3, d4, d5, d6, d7, d8, d9⟩, hf2⟩ := hf2; have g6 := hf2 6; have g7 := hf2 7; clear hf2; have hT2'h := Lib.hid hT2; clear hT2))
  have hT := (hT2'h.out.set 6 (.int .u64 x) (set_ctrl s x)).set 7 (.int .u8 m) (set_left { s with ctrl := x } m)
  rw [hs0'h.out] at hT
  clear c0 c1 c2 c3 c4 c5 c6 c7 c8 c9 f d0 d1 d2 d3 d4 d5 d6 d7 d8 d9 g6 g7
  have hT'h := Lib.hid hT
  clear hT
  go_wp2_with (first | (refine wpList_load_row rfl _ _ rfl w.heap.size rfl 33 _ (0, 0) _ hT'h.out.at0 Try.underlying33 rfl infoSg ?_) | (go_at_call 50; refine (O'h.out _).mono ?_; rintro e w3 ⟨rfl, hb3⟩; have hT3 := hT'h.out.next hb3; have hT3'h := Lib.hid hT3; clear hT3) | (refine wpList_store_row rfl _ _ _ rfl (w.heap.size + 1) (sgA s1) rfl rfl 33 _ hT3'h.out.at1 infoSg rfl (sgA_one _) ?_))
  have hR := setRow_heap _ _ _ (sgA s1) _ _ hT3'h.out.at1
  have hB3 := below_setRow' hT3'h.out.old (show w.heap.size ≤ w.heap.size + 1 by omega) (sgA s1)
  obtain ⟨c0, c1, c2, c3, c4, c5, c6, c7, c8, c9⟩ := SgC.of (s := s1) hR
  change bodyPost _ _ _ _ _ (World.setRow w3 (w.heap.size + 1) (sgA s1))
  generalize World.setRow w3 (w.heap.size + 1) (sgA s1) = w9 at *
  refine bodyPost_ret (v := .agg (sgA s1)) ?_ rfl ⟨rfl, hB3⟩
  simp [results, Try.results25, go_sem, c0, c1, c2, c3, c4, c5, c6, c7, c8, c9, sgA]

set_option maxHeartbeats 4000000 in
theorem rtake2b (s : Sg) (x : Nat) (w : World) (h : SgOk s) (hr : SgRight s) (hx : x < 2 ^ 64) (hp : s.phase = 2) (ho : ¬ x = s.key) : Calls Try.prog 25 #[.agg (sgA s), .int .u64 x] w fun e w' => e = .returned (.agg (sgA (takeS s x))) ∧ Below w.heap.size w w' := by
  have e0 : (s.phase == 0) = false := by simp [hp]
  have e1 : (s.phase == 1) = false := by simp [hp]
  have e2 : (s.phase == 2) = true := by simp [hp]
  have hox : ((x : Int) == (s.key : Int)) = false := by simp; omega
  have h0 : s.left ≠ 0 := by rcases hr.left with q | q
                             · exact q
                             · exact absurd hp q.1
  have L := fun w => ref_least s.left w h.left h0
  have V := fun w => ref_without s.left (firstLane s.left) w h.left (firstLane_lt' h.left)
  rw [show woK s.left (firstLane s.left) 8 = dropM s.left from woK_full ⟨s.left, h.left⟩ h0] at V
  have O := fun w => ref_on { s with left := dropM s.left } w hr.grp h.ctrl
  have hfin : takeS s x = onS { s with left := dropM s.left } := by rw [takeS, if_neg (by omega), if_neg (by omega), if_pos hp, if_neg ho]
  rw [hfin]
  clear hfin
  have hset := set_left s (dropM s.left)
  generalize dropM s.left = dm at *
  generalize ({ s with left := dm } : Sg) = s0 at *
  generalize onS s0 = s1 at *
  go_enter Try.func25, Try.ntmps25
  go_upto_region 1 with fail
  have hT0 := TwoS.new s w
  generalize hW : ((w.alloc (.cells (sgA s) 33)).alloc (.cells #[.int .i64 0, .int .i64 0, .int .u64 0, .int .u64 0, .int .u64 0, .int .i64 0, .int .u64 0, .int .u8 0, .int .u64 0, .bool false] 33)) = W at hT0 ⊢
  clear hW
  obtain ⟨⟨c0, c1, c2, c3, c4, c5, c6, c7, c8, c9⟩, f⟩ := hT0.facts
  have f7 := f 7
  have hT0'h := Lib.hid hT0
  have hset'h := Lib.hid hset
  have h'h := Lib.hid h
  have hx'h := Lib.hid hx
  have hr'h := Lib.hid hr
  have L'h := Lib.hid L
  have V'h := Lib.hid V
  have O'h := Lib.hid O
  clear hT0 hset h hx hr L V O
  go_upto_region 14 with fail
  go_still_tail 7, (by kernel_rfl)
  still_call (L'h.out _)
  still_call (V'h.out _)
  repeat still_step
  refine wpStill_nil ?_
  change wpList _ _ _ _ _ W.drew
  have hT := (show TwoS s w.heap.size w W.drew from ⟨hT0'h.out.at0, hT0'h.out.at1, hT0'h.out.old.drew⟩).set 7 (.int .u8 dm) hset'h.out
  have hT'h := Lib.hid hT
  clear hT
  go_upto_region 15 with fail
  clear c0 c1 c2 c3 c4 c5 c6 c7 c8 c9 f f7
  go_wp2_with (first | (refine wpList_load_row rfl _ _ rfl w.heap.size rfl 33 _ (0, 0) _ hT'h.out.at0 Try.underlying33 rfl infoSg ?_) | (go_at_call 50; refine (O'h.out _).mono ?_; rintro e w3 ⟨rfl, hb3⟩; have hT3 := hT'h.out.next hb3; have hT3'h := Lib.hid hT3; clear hT3) | (refine wpList_store_row rfl _ _ _ rfl (w.heap.size + 1) (sgA s1) rfl rfl 33 _ hT3'h.out.at1 infoSg rfl (sgA_one _) ?_))
  have hR := setRow_heap _ _ _ (sgA s1) _ _ hT3'h.out.at1
  have hB3 := below_setRow' hT3'h.out.old (show w.heap.size ≤ w.heap.size + 1 by omega) (sgA s1)
  obtain ⟨c0, c1, c2, c3, c4, c5, c6, c7, c8, c9⟩ := SgC.of (s := s1) hR
  change bodyPost _ _ _ _ _ (World.setRow w3 (w.heap.size + 1) (sgA s1))
  generalize World.setRow w3 (w.heap.size + 1) (sgA s1) = w9 at *
  refine bodyPost_ret (v := .agg (sgA s1)) ?_ rfl ⟨rfl, hB3⟩
  simp [results, Try.results25, go_sem, c0, c1, c2, c3, c4, c5, c6, c7, c8, c9, sgA]

end Go.Proofs.Ytoklgjlmjkhmbaa

/-
  The document's answers of layer 18: Take, and the cell of a load.
-/
set_option linter.unusedSimpArgs false
set_option linter.unusedVariables false
set_option maxRecDepth 100000
namespace Go.Proofs.Ytoklgjlmjkhmbaa
open Go.RowKit

theorem ref_take (s : Sg) (x : Nat) (w : World) (h : SgOk s) (hr : SgRight s) (hh : hasS s = true) (hx : x < 2 ^ 64) : Calls Try.prog 25 #[.agg (sgA s), .int .u64 x] w fun e w' => e = .returned (.agg (sgA (takeS s x))) ∧ Below w.heap.size w w' := by
  have h4 : s.phase ≤ 4 := by simpa [hasS] using hh
  have h0 := hr.phase.1
  by_cases p0 : s.phase = 0
  · by_cases ho : x % 2 = 1
    · exact rtake0 s x w h hx p0 ho
    · exact rtake0b s x w h hx p0 ho
  · by_cases p1 : s.phase = 1
    · exact rtake1 s x w h hr hx p1
    · by_cases p2 : s.phase = 2
      · by_cases ho : x = s.key
        · exact rtake2 s x w h hx p2 ho
        · exact rtake2b s x w h hr hx p2 ho
      · by_cases p3 : s.phase = 3
        · exact rtake3 s x w h hx p3
        · have p4 : s.phase = 4 := by omega
          by_cases ho : x = s.began
          · exact rtake4 s x w h hx p4 ho
          · exact rtake4b s x w h hx p4 ho
/-- One block in a row: the sight. -/
structure OneS (s : Sg) (b : Nat) (w W : World) : Prop where
  at0 : W.heap[b]? = some (.cells (sgA s) 33 (0, 0))
  old : Below b w W
theorem OneS.next {s : Sg} {b : Nat} {w W W' : World} (h : OneS s b w W) (hb : Below W.heap.size W W') : OneS s b w W' :=
  ⟨heap_below hb h.at0 (lt_of_heap h.at0), h.old.trans (hb.mono (by have := lt_of_heap h.at0; omega))⟩
theorem OneS.new (s : Sg) (w : World) : OneS s w.heap.size w (w.alloc (.cells (sgA s) 33)) := ⟨World.alloc_heap_new w _, (Below.refl _ _).alloc (Nat.le_refl _) _⟩
set_option maxHeartbeats 4000000 in
theorem rcell0 (s : Sg) (w : World) (h : SgOk s) (hr : SgRight s) (h1 : s.phase ≠ 1) (h2 : s.phase ≠ 2) (h3 : s.phase ≠ 3) : Calls Try.prog 23 #[.agg (sgA s)] w fun e w' => e = .returned (.int .i64 (cellS s)) ∧ Below w.heap.size w w' := by
  have e1 : (s.phase == 1) = false := by simpa using h1
  have e2 : (s.phase == 2) = false := by simpa using h2
  have e3 : (s.phase == 3) = false := by simpa using h3
  have hc : cellS s = 16 + 40 * s.slab.toNat + 0 := by unfold cellS wordS; rw [if_neg h1, if_neg h2, if_neg h3]
  rw [hc]
  have C := fun w => ref_cell s.slab.toNat 0 w (by have := hr.slab; omega) (by omega)
  have hsl : ((s.slab.toNat : Nat) : Int) = s.slab := by have := hr.slab; omega
  rw [hsl] at C
  generalize 16 + 40 * s.slab.toNat + 0 = cl at *
  clear hc hsl h1 h2 h3
  go_enter Try.func23, Try.ntmps23
  go_upto_region 1 with fail
  have hO := OneS.new s w
  generalize hW : w.alloc (.cells (sgA s) 33) = W at hO ⊢
  clear hW
  obtain ⟨c0, c1, _, _, _, _, _, _, _, _⟩ := SgC.of hO.at0
  have C'h := Lib.hid C
  have hO'h := Lib.hid hO
  have h'h := Lib.hid h
  have hr'h := Lib.hid hr
  clear C hO h hr
  go_wp2_with (go_at_call 10; refine (C'h.out _).mono ?_; rintro e w2 ⟨rfl, rfl⟩)
  go_ret
  exact ⟨rfl, hO'h.out.old⟩
set_option maxHeartbeats 4000000 in
theorem rcell1 (s : Sg) (w : World) (h : SgOk s) (hr : SgRight s) (h1 : s.phase = 1) : Calls Try.prog 23 #[.agg (sgA s)] w fun e w' => e = .returned (.int .i64 (cellS s)) ∧ Below w.heap.size w w' := by
  have e1 : (s.phase == 1) = true := by simpa using h1
  have hc : cellS s = 16 + 40 * s.slab.toNat + (4 + grpS s) := by unfold cellS wordS; rw [if_pos h1]
  have hg2 := grpS_lt s
  rw [hc]
  have C := fun w => ref_cell s.slab.toNat (4 + grpS s) w (by have := hr.slab; omega) (by omega)
  have hsl : ((s.slab.toNat : Nat) : Int) = s.slab := by have := hr.slab; omega
  rw [hsl, show ((4 + grpS s : Nat) : Int) = 4 + (grpS s : Int) by omega] at C
  have G := fun w => ref_grp s w h hr
  generalize 16 + 40 * s.slab.toNat + (4 + grpS s) = cl at *
  generalize grpS s = gp at *
  have hgi : (gp : Int) < 2 := by omega
  clear hc hsl h1
  go_enter Try.func23, Try.ntmps23
  go_upto_region 1 with fail
  have hO := OneS.new s w
  generalize hW : w.alloc (.cells (sgA s) 33) = W at hO ⊢
  clear hW
  obtain ⟨c0, _, _, _, _, _, _, _, _, _⟩ := SgC.of hO.at0
  have C'h := Lib.hid C
  have hO'h := Lib.hid hO
  have h'h := Lib.hid h
  have hr'h := Lib.hid hr
  have G'h := Lib.hid G
  have hg2'h := Lib.hid hg2
  clear C hO h hr G hg2
  go_upto_region 4 with fail
  clear c0
  go_wp2_with (first | (refine wpList_load_row rfl _ _ rfl w.heap.size rfl 33 _ (0, 0) _ hO'h.out.at0 Try.underlying33 rfl infoSg ?_) | (go_at_call 47; refine (G'h.out _).mono ?_; rintro e w2 ⟨rfl, hb2⟩; have hO2 := hO'h.out.next hb2; have d1 := (SgC.of hO2.at0).2.1; have hO2'h := Lib.hid hO2; clear hO2) | (go_at_call 10; refine (C'h.out _).mono ?_; rintro e w3 ⟨rfl, rfl⟩))
  go_ret
  exact ⟨rfl, hO2'h.out.old⟩
set_option maxHeartbeats 4000000 in
theorem rcell2 (s : Sg) (w : World) (h : SgOk s) (hr : SgRight s) (hp : s.phase = 2) : Calls Try.prog 23 #[.agg (sgA s)] w fun e w' => e = .returned (.int .i64 (cellS s)) ∧ Below w.heap.size w w' := by
  have e1 : (s.phase == 1) = false := by simp [hp]
  have e2 : (s.phase == 2) = true := by simp [hp]
  have h0 : s.left ≠ 0 := by rcases hr.left with q | q
                             · exact q
                             · exact absurd hp q.1
  have hc : cellS s = 16 + 40 * s.slab.toNat + (6 + (8 * grpS s + firstLane s.left)) := by unfold cellS wordS; rw [if_neg (by omega), if_pos hp]
  have hg2 := grpS_lt s
  have hl8 := firstLane_lt' h.left
  rw [hc]
  have C := fun w => ref_cell s.slab.toNat (6 + (8 * grpS s + firstLane s.left)) w (by have := hr.slab; omega) (by omega)
  have hsl : ((s.slab.toNat : Nat) : Int) = s.slab := by have := hr.slab; omega
  rw [hsl, show ((6 + (8 * grpS s + firstLane s.left) : Nat) : Int) = 6 + 8 * (grpS s : Int) + (firstLane s.left : Int) by omega] at C
  have G := fun w => ref_grp s w h hr
  have L := fun w => ref_least s.left w h.left h0
  generalize 16 + 40 * s.slab.toNat + (6 + (8 * grpS s + firstLane s.left)) = cl at *
  generalize grpS s = gp at *
  generalize firstLane s.left = ln at *
  have hgi : (gp : Int) < 2 := by omega
  have hli : (ln : Int) < 8 := by omega
  clear hc hsl h0 hp
  go_enter Try.func23, Try.ntmps23
  go_upto_region 1 with fail
  have hO := OneS.new s w
  generalize hW : w.alloc (.cells (sgA s) 33) = W at hO ⊢
  clear hW
  obtain ⟨ph, sl, ky, ha, be, gr, ct, le, va, fo⟩ := s
  have hbl : w.heap.size < W.heap.size := lt_of_heap hO.at0
  have hkeep : ∀ W' : World, Below W.heap.size W W' → (SgC ⟨ph, sl, ky, ha, be, gr, ct, le, va, fo⟩ w.heap.size W' ∧ Below W.heap.size W W') := fun W' h => ⟨SgC.of (hO.next h).at0, h⟩
  obtain ⟨c0, c1, c2, c3, c4, c5, c6, c7, c8, c9⟩ := SgC.of hO.at0
  simp only [sgA, SgC] at *
  have C'h := Lib.hid C
  have hO'h := Lib.hid hO
  have h'h := Lib.hid h
  have hr'h := Lib.hid hr
  have G'h := Lib.hid G
  have L'h := Lib.hid L
  have hg2'h := Lib.hid hg2
  have hl8'h := Lib.hid hl8
  have hkeep'h := Lib.hid hkeep
  have hbl'h := Lib.hid hbl
  clear C hO h hr G L hg2 hl8 hkeep hbl
  go_upto_region 6 with fail
  have k2 := Below.refl W.heap.size W
  go_region_held3 (fun W' => (W'.cell? ⟨w.heap.size, 0, none⟩ = some (.int .i64 ph) ∧ W'.cell? ⟨w.heap.size, 1, none⟩ = some (.int .i64 sl) ∧ W'.cell? ⟨w.heap.size, 2, none⟩ = some (.int .u64 ky) ∧ W'.cell? ⟨w.heap.size, 3, none⟩ = some (.int .u64 ha) ∧ W'.cell? ⟨w.heap.size, 4, none⟩ = some (.int .u64 be) ∧ W'.cell? ⟨w.heap.size, 5, none⟩ = some (.int .i64 gr) ∧ W'.cell? ⟨w.heap.size, 6, none⟩ = some (.int .u64 ct) ∧ W'.cell? ⟨w.heap.size, 7, none⟩ = some (.int .u8 le) ∧ W'.cell? ⟨w.heap.size, 8, none⟩ = some (.int .u64 va) ∧ W'.cell? ⟨w.heap.size, 9, none⟩ = some (.bool fo)) ∧ Below W.heap.size W W') (first | exact hkeep'h.out _ (by assumption) | exact hkeep'h.out _ (Below.drew (by assumption)) | (go_split_ands; first | exact hkeep'h.out _ (by assumption) | exact hkeep'h.out _ (Below.drew (by assumption)) | exact hkeep'h.out _ (below_next (by assumption) (by assumption))) | fail) (first | (go_at_call 47; refine (G'h.out _).mono ?_; rintro e w3 ⟨rfl, hb3⟩) | (go_at_call 48; refine (L'h.out _).mono ?_; rintro e w4 ⟨rfl, rfl⟩) | fail)
  all_goals
    have hB3 := below_next (Below.drew (Below.refl W.heap.size W)) hb3
    have d1 := (hkeep'h.out _ hB3).1.2.1
    clear c0 c1 c2 c3 c4 c5 c6 c7 c8 c9 k2 hb3
    have hB3'h := Lib.hid hB3
    clear hB3
    go_wp2_with (go_at_call 10; refine (C'h.out _).mono ?_; rintro e w5 ⟨rfl, rfl⟩)
    go_ret
    exact ⟨rfl, hO'h.out.old.trans (hB3'h.out.mono (by have := hbl'h.out; omega))⟩
set_option maxHeartbeats 4000000 in
theorem rcell3 (s : Sg) (w : World) (h : SgOk s) (hr : SgRight s) (hp : s.phase = 3) : Calls Try.prog 23 #[.agg (sgA s)] w fun e w' => e = .returned (.int .i64 (cellS s)) ∧ Below w.heap.size w w' := by
  have e1 : (s.phase == 1) = false := by simp [hp]
  have e2 : (s.phase == 2) = false := by simp [hp]
  have e3 : (s.phase == 3) = true := by simp [hp]
  have h0 : s.left ≠ 0 := by rcases hr.left with q | q
                             · exact q
                             · exact absurd hp q.2
  have hc : cellS s = 16 + 40 * s.slab.toNat + (22 + (8 * grpS s + firstLane s.left)) := by unfold cellS wordS; rw [if_neg (by omega), if_neg (by omega), if_pos hp]
  have hg2 := grpS_lt s
  have hl8 := firstLane_lt' h.left
  rw [hc]
  have C := fun w => ref_cell s.slab.toNat (22 + (8 * grpS s + firstLane s.left)) w (by have := hr.slab; omega) (by omega)
  have hsl : ((s.slab.toNat : Nat) : Int) = s.slab := by have := hr.slab; omega
  rw [hsl, show ((22 + (8 * grpS s + firstLane s.left) : Nat) : Int) = 22 + 8 * (grpS s : Int) + (firstLane s.left : Int) by omega] at C
  have G := fun w => ref_grp s w h hr
  have L := fun w => ref_least s.left w h.left h0
  generalize 16 + 40 * s.slab.toNat + (22 + (8 * grpS s + firstLane s.left)) = cl at *
  generalize grpS s = gp at *
  generalize firstLane s.left = ln at *
  have hgi : (gp : Int) < 2 := by omega
  have hli : (ln : Int) < 8 := by omega
  clear hc hsl h0 hp
  go_enter Try.func23, Try.ntmps23
  go_upto_region 1 with fail
  have hO := OneS.new s w
  generalize hW : w.alloc (.cells (sgA s) 33) = W at hO ⊢
  clear hW
  obtain ⟨ph, sl, ky, ha, be, gr, ct, le, va, fo⟩ := s
  have hbl : w.heap.size < W.heap.size := lt_of_heap hO.at0
  have hkeep : ∀ W' : World, Below W.heap.size W W' → (SgC ⟨ph, sl, ky, ha, be, gr, ct, le, va, fo⟩ w.heap.size W' ∧ Below W.heap.size W W') := fun W' h => ⟨SgC.of (hO.next h).at0, h⟩
  obtain ⟨c0, c1, c2, c3, c4, c5, c6, c7, c8, c9⟩ := SgC.of hO.at0
  simp only [sgA, SgC] at *
  have C'h := Lib.hid C
  have hO'h := Lib.hid hO
  have h'h := Lib.hid h
  have hr'h := Lib.hid hr
  have G'h := Lib.hid G
  have L'h := Lib.hid L
  have hg2'h := Lib.hid hg2
  have hl8'h := Lib.hid hl8
  have hkeep'h := Lib.hid hkeep
  have hbl'h := Lib.hid hbl
  clear C hO h hr G L hg2 hl8 hkeep hbl
  go_upto_region 8 with fail
  have k2 := Below.refl W.heap.size W
  go_region_held3 (fun W' => (W'.cell? ⟨w.heap.size, 0, none⟩ = some (.int .i64 ph) ∧ W'.cell? ⟨w.heap.size, 1, none⟩ = some (.int .i64 sl) ∧ W'.cell? ⟨w.heap.size, 2, none⟩ = some (.int .u64 ky) ∧ W'.cell? ⟨w.heap.size, 3, none⟩ = some (.int .u64 ha) ∧ W'.cell? ⟨w.heap.size, 4, none⟩ = some (.int .u64 be) ∧ W'.cell? ⟨w.heap.size, 5, none⟩ = some (.int .i64 gr) ∧ W'.cell? ⟨w.heap.size, 6, none⟩ = some (.int .u64 ct) ∧ W'.cell? ⟨w.heap.size, 7, none⟩ = some (.int .u8 le) ∧ W'.cell? ⟨w.heap.size, 8, none⟩ = some (.int .u64 va) ∧ W'.cell? ⟨w.heap.size, 9, none⟩ = some (.bool fo)) ∧ Below W.heap.size W W') (first | exact hkeep'h.out _ (by assumption) | exact hkeep'h.out _ (Below.drew (by assumption)) | (go_split_ands; first | exact hkeep'h.out _ (by assumption) | exact hkeep'h.out _ (Below.drew (by assumption)) | exact hkeep'h.out _ (below_next (by assumption) (by assumption))) | fail) (first | (go_at_call 47; refine (G'h.out _).mono ?_; rintro e w3 ⟨rfl, hb3⟩) | (go_at_call 48; refine (L'h.out _).mono ?_; rintro e w4 ⟨rfl, rfl⟩) | fail)
  all_goals
    have hB3 := below_next (Below.drew (Below.refl W.heap.size W)) hb3
    have d1 := (hkeep'h.out _ hB3).1.2.1
    clear c0 c1 c2 c3 c4 c5 c6 c7 c8 c9 k2 hb3
    have hB3'h := Lib.hid hB3
    clear hB3
    go_wp2_with (go_at_call 10; refine (C'h.out _).mono ?_; rintro e w5 ⟨rfl, rfl⟩)
    go_ret
    exact ⟨rfl, hO'h.out.old.trans (hB3'h.out.mono (by have := hbl'h.out; omega))⟩
theorem ref_rcell (s : Sg) (w : World) (h : SgOk s) (hr : SgRight s) : Calls Try.prog 23 #[.agg (sgA s)] w fun e w' => e = .returned (.int .i64 (cellS s)) ∧ Below w.heap.size w w' := by
  by_cases p1 : s.phase = 1
  · exact rcell1 s w h hr p1
  · by_cases p2 : s.phase = 2
    · exact rcell2 s w h hr p2
    · by_cases p3 : s.phase = 3
      · exact rcell3 s w h hr p3
      · exact rcell0 s w h hr p1 p2 p3
end Go.Proofs.Ytoklgjlmjkhmbaa

/-
  The document's answers of layer 18: Run.
-/
set_option linter.unusedSimpArgs false
set_option linter.unusedVariables false
set_option maxRecDepth 100000
namespace Go.Proofs.Ytoklgjlmjkhmbaa
open Go.RowKit

theorem int_succ {k : Nat} (h : (k : Int) < 1000) : Value.int .i64 (IntKind.i64.wrap ((k : Int) + 1)) = .int .i64 ((k + 1 : Nat) : Int) := by
  rw [IntKind.wrap_i64]
  have e : ((k : Int) + 1 + 9223372036854775808) % 18446744073709551616 - 9223372036854775808 = ((k + 1 : Nat) : Int) := by omega
  rw [e]
set_option maxHeartbeats 4000000 in
theorem ref_run (sp : Option Addr) (n cap : Nat) (ws : List Nat) (slab : Int) (key hash : Nat) (w : World) (h64 : W64 ws) (hS : Sl w sp n (u64s ws)) (hn : 1 ≤ n ∧ n ≤ 8192) (ht : thereB n slab = true) (hk : key < 2 ^ 64) (hh : hash < 2 ^ 64) :
    Calls Try.prog 16 #[.slice sp n cap, .int .i64 slab, .int .u64 key, .int .u64 hash] w fun e w' => e = .returned (.tuple #[.agg (sgA (runS ws slab key hash).1), .int .i64 ((runS ws slab key hash).2 : Nat)]) ∧ Below w.heap.size w w' := by
  have hlen : n = ws.length := by have := hS.1; rwa [u64s_length] at this
  have hsl : 0 ≤ slab ∧ slab < 128 := by unfold thereB at ht; simp at ht; omega
  have hbok : SgOk (beginS slab key hash) := ⟨by simp [beginS], by simp [beginS]; omega, hk, hh, by simp [beginS], by simp [beginS], by simp [beginS], by simp [beginS], by simp [beginS]⟩
  have hbr : SgRight (beginS slab key hash) := ⟨by simp [beginS], by simpa [beginS] using hsl, by simp [beginS], by simp [beginS], by simp [beginS]⟩
  have hgo : runF ws (1000 - 0) (beginS slab key hash) 0 = runS ws slab key hash := rfl
  have hrest : 0 + restS (beginS slab key hash) ≤ 1000 := by simp [restS, beginS]
  have hbs : (beginS slab key hash).slab = slab := rfl
  have hone := sgA_one (beginS slab key hash)
  generalize runS ws slab key hash = tgt at *
  have hbok'h := Lib.hid hbok
  have hbr'h := Lib.hid hbr
  have hgo'h := Lib.hid hgo
  have hrest'h := Lib.hid hrest
  have hbs'h := Lib.hid hbs
  have hone'h := Lib.hid hone
  have hlen'h := Lib.hid hlen
  have h64'h := Lib.hid h64
  have hS'h := Lib.hid hS
  have hn'h := Lib.hid hn
  have ht'h := Lib.hid ht
  have hk'h := Lib.hid hk
  have hh'h := Lib.hid hh
  have hsl'h := Lib.hid hsl
  clear hbok hbr hgo hrest hbs hone hlen h64 hS hn ht hk hh hsl
  go_enter Try.func16, Try.ntmps16
  go_upto_region 1 with fail
  have hz0 := World.alloc_heap_new w (.cells #[.int .i64 0, .int .i64 0, .int .u64 0, .int .u64 0, .int .u64 0, .int .i64 0, .int .u64 0, .int .u8 0, .int .u64 0, .bool false] 33)
  have hb0 : Below w.heap.size w (w.alloc (.cells #[.int .i64 0, .int .i64 0, .int .u64 0, .int .u64 0, .int .u64 0, .int .i64 0, .int .u64 0, .int .u8 0, .int .u64 0, .bool false] 33)) := (Below.refl _ _).alloc (Nat.le_refl _) _
  have hsz0 : (w.alloc (.cells #[.int .i64 0, .int .i64 0, .int .u64 0, .int .u64 0, .int .u64 0, .int .i64 0, .int .u64 0, .int .u8 0, .int .u64 0, .bool false] 33)).heap.size = w.heap.size + 1 := by simp
  generalize hW : w.alloc (.cells #[.int .i64 0, .int .i64 0, .int .u64 0, .int .u64 0, .int .u64 0, .int .i64 0, .int .u64 0, .int .u8 0, .int .u64 0, .bool false] 33) = W at hz0 hb0 hsz0 ⊢
  clear hW
  have hV0 := World.alloc_heap_new W (.cells #[.int .i64 0, .int .i64 0, .int .u64 0, .int .u64 0, .int .u64 0, .int .i64 0, .int .u64 0, .int .u8 0, .int .u64 0, .bool false] 33)
  have hz0'h := Lib.hid hz0
  have hb0'h := Lib.hid hb0
  have hsz0'h := Lib.hid hsz0
  have hV0'h := Lib.hid hV0
  clear hz0 hb0 hsz0 hV0
  go_wp2_with (first | (refine wpList_store_row rfl _ _ _ rfl W.heap.size (sgA (beginS slab key hash)) rfl rfl 33 _ hV0'h.out infoSg rfl hone'h.out ?_))
  have hM0 : RunM W.heap.size w.heap.size w ws tgt slab (beginS slab key hash) 0 ((W.alloc (.cells #[.int .i64 0, .int .i64 0, .int .u64 0, .int .u64 0, .int .u64 0, .int .i64 0, .int .u64 0, .int .u8 0, .int .u64 0, .bool false] 33)).setRow W.heap.size (sgA (beginS slab key hash))) := by
    have hsz := hsz0'h.out
    refine ⟨setRow_heap _ _ _ _ _ _ hV0'h.out, ?_, by omega, ⟨Nat.le_refl _, by omega⟩, ?_, hbok'h.out, hbr'h.out, hbs'h.out, hgo'h.out, hrest'h.out⟩
    · exact (setRow_other _ _ _ _ (by omega)).trans ((Below.heap_alloc _ _ _ (by omega)).trans hz0'h.out)
    · exact below_setRow' (hb0'h.out.alloc (by omega) _) (by omega) _
  have hVw : w.heap.size < W.heap.size := by have := hsz0'h.out; omega
  generalize W.heap.size = V at *
  generalize (W.alloc (.cells #[.int .i64 0, .int .i64 0, .int .u64 0, .int .u64 0, .int .u64 0, .int .i64 0, .int .u64 0, .int .u8 0, .int .u64 0, .bool false] 33)).setRow V (sgA (beginS slab key hash)) = W1 at *
  have hM0'h := Lib.hid hM0
  have hVw'h := Lib.hid hVw
  clear hM0 hVw
  clear hz0'h hb0'h hsz0'h hV0'h hbok'h hbr'h hgo'h hrest'h hbs'h hone'h
  go_loopg [11] 1000 (fun q i wr => ∃ (k : Nat) (s : Sg), k + q = 1000 ∧ i = .int .i64 k ∧ RunM V w.heap.size w ws tgt slab s k wr)
  case atStart => exact ⟨0, _, rfl, rfl, hM0'h.out⟩
  case round =>
    obtain ⟨k, s, hkq, rfl, hM⟩ := hrel
    have hV := hM.var
    have hRs := hM.res
    have hold := hM.old
    have hle := hM.le
    have hVl := lt_of_heap hV
    have hRl := lt_of_heap hRs
    have H := fun w => ref_hasS s w
    by_cases hh1 : hasS s = true
    · rw [hh1] at H
      have C := fun w => ref_rcell s w hM.ok hM.right
      have hcl := cellS_lt hM.ok hM.right (n := n) (by rw [hM.slab_eq]; exact ht'h.out)
      have hx64 : nthN ws (cellS s) < 2 ^ 64 := h64'h.out _ (nthN_mem (by have := hlen'h.out; omega))
      have K := fun w => ref_take s (nthN ws (cellS s)) w hM.ok hM.right hh1 hx64
      obtain ⟨ab, aoff, rfl, hcs⟩ := (hS'h.out.below hM.old).some' (by have := hn'h.out; omega)
      have c1 := hcs (cellS s) _ (u64s_at (by have := hlen'h.out; omega))
      have hpos := rest_pos hM.right hh1
      have hrt := restS_take (w := nthN ws (cellS s)) hM.ok hM.right hh1
      have hrs := hM.rest
      have hMn : ∀ W5 : World, W5.heap[V]? = some (.cells (sgA (takeS s (nthN ws (cellS s)))) 33 (0, 0)) → W5.heap[w.heap.size]? = some (.cells #[.int .i64 0, .int .i64 0, .int .u64 0, .int .u64 0, .int .u64 0, .int .i64 0, .int .u64 0, .int .u8 0, .int .u64 0, .bool false] 33 (0, 0)) → Below w.heap.size w W5 →
          RunM (V) w.heap.size w ws tgt slab (takeS s (nthN ws (cellS s))) (k + 1) W5 := fun W5 h1 h2 h3 =>
        ⟨h1, h2, hM.ne, hM.le, h3, takeS_ok hM.ok hM.right hx64, takeS_right hM.right, by rw [take_slab]; exact hM.slab_eq, by rw [← hM.goes, show 1000 - k = (1000 - (k + 1)) + 1 by omega, runF_step hh1], by omega⟩
      have hq : (k : Int) < 1000 := by omega
      have hne := hM.ne
      clear hM hcs hx64 hrt hpos
      generalize takeS s (nthN ws (cellS s)) = s' at *
      generalize nthN ws (cellS s) = x at *
      generalize cellS s = cl at *
      have hone1 := sgA_one s'
      have hsz10 : (sgA s').size = 10 := rfl
      have d1 : decide (n ≤ cl) = false := by simp; omega
      have hcl' : (cl : Int) < (n : Int) := by omega
      have habl := lt_of_cell c1
      have hkk : (1 : Nat) ≤ gk := by omega
      obtain ⟨ph, sl, ky, ha, be, gr, ct, le, va, fo⟩ := s
      have H'h := Lib.hid H
      have C'h := Lib.hid C
      have K'h := Lib.hid K
      have hMn'h := Lib.hid hMn
      have hV'h := Lib.hid hV
      have hRs'h := Lib.hid hRs
      have hold'h := Lib.hid hold
      have hne'h := Lib.hid hne
      have hle'h := Lib.hid hle
      have hone1'h := Lib.hid hone1
      have c1'h := Lib.hid c1
      have hcl'h := Lib.hid hcl
      have habl'h := Lib.hid habl
      have hVl'h := Lib.hid hVl
      have hRl'h := Lib.hid hRl
      have hkq'h := Lib.hid hkq
      have hkk'h := Lib.hid hkk
      have hrs'h := Lib.hid hrs
      clear H C K hMn hV hRs hold hne hle hone1 c1 hcl habl hVl hRl hkq hkk hrs
      go_wp2_with (first | (refine wpList_load_row rfl _ _ rfl (V) rfl 33 (sgA ⟨ph, sl, ky, ha, be, gr, ct, le, va, fo⟩) (0, 0) _ hV'h.out Try.underlying33 rfl infoSg ?_) | (go_at_call 20; refine (H'h.out _).mono ?_; rintro e w3 ⟨rfl, hb3⟩))
      have hc3 : w3.cell? ⟨ab, aoff + cl, none⟩ = some (.int .u64 x) := (hb3.cell (p := ⟨ab, aoff + cl, none⟩) habl'h.out).trans c1'h.out
      have hV3 := heap_below hb3 hV'h.out hVl'h.out
      have hR3 := heap_below hb3 hRs'h.out hRl'h.out
      have hB3 := hold'h.out.trans (hb3.mono hold'h.out.size)
      have hsC : SgC ⟨ph, sl, ky, ha, be, gr, ct, le, va, fo⟩ (V) w3 := SgC.of hV3
      have hcl3 := lt_of_cell hc3
      have hF6 : ∀ w6, Below w3.drew.heap.size w3.drew w6 → SgC ⟨ph, sl, ky, ha, be, gr, ct, le, va, fo⟩ (V) w6 ∧ w6.cell? ⟨ab, aoff + cl, none⟩ = some (.int .u64 x) ∧ w6.heap[V]? = some (.cells (sgA ⟨ph, sl, ky, ha, be, gr, ct, le, va, fo⟩) 33 (0, 0)) ∧ w6.heap[w.heap.size]? = some (.cells #[.int .i64 0, .int .i64 0, .int .u64 0, .int .u64 0, .int .u64 0, .int .i64 0, .int .u64 0, .int .u8 0, .int .u64 0, .bool false] 33 (0, 0)) ∧ Below w.heap.size w w6 := by
        intro w6 hb
        have hb' : Below w3.heap.size w3.drew w6 := hb
        have hv := heap_below hb' (show w3.drew.heap[V]? = _ from hV3) (lt_of_heap hV3)
        exact ⟨SgC.of hv, (hb'.cell (p := ⟨ab, aoff + cl, none⟩) hcl3).trans hc3, hv, heap_below hb' (show w3.drew.heap[w.heap.size]? = _ from hR3) (lt_of_heap hR3), (Below.drew hB3).trans (hb'.mono hB3.size)⟩
      clear hb3
      simp only [SgC] at hsC hF6
      obtain ⟨q0, q1, q2, q3, q4, q5, q6, q7, q8, q9⟩ := hsC
      have hV3'h := Lib.hid hV3
      have hR3'h := Lib.hid hR3
      have hB3'h := Lib.hid hB3
      have hF6'h := Lib.hid hF6
      have hcl3'h := Lib.hid hcl3
      clear hV3 hR3 hB3 hF6 hcl3
      go_region_law (first | (go_simp; go_at_call 23; refine (C'h.out _).mono ?_; rintro e w6 ⟨rfl, hb6⟩; obtain ⟨⟨p0, p1, p2, p3, p4, p5, p6, p7, p8, p9⟩, hc6, hV6, hR6, hB6⟩ := hF6'h.out _ hb6; have hV6'h := Lib.hid hV6; have hR6'h := Lib.hid hR6; have hB6'h := Lib.hid hB6; clear hV6 hR6 hB6 hb6) | (go_simp; go_at_call 25; refine (K'h.out _).mono ?_; rintro e w4 ⟨rfl, hb4⟩; have hV4 := heap_below hb4 hV6'h.out (lt_of_heap hV6'h.out); have hst := run_storeCells_row (P := Try.prog) _ _ _ _ (sgA s') hV4 rfl hone1'h.out; have hV4'h := Lib.hid hV4; clear hV4))
      all_goals
        have hVn := setRow_heap _ _ _ (sgA s') _ _ hV4'h.out
        have hRn := (setRow_other w4 (V) w.heap.size (sgA s') (fun e => hne'h.out e.symm)).trans (heap_below hb4 hR6'h.out (lt_of_heap hR6'h.out))
        have hB4 := hB6'h.out.trans (hb4.mono hB6'h.out.size)
        have hB5 := below_setRow' hB4 hle'h.out.2 (sgA s')
        clear hst hB4 hb4
        obtain ⟨W5, hW5⟩ : ∃ W5, W5 = w4.setRow (V) (sgA s') := ⟨_, rfl⟩
        rw [← hW5] at hVn hRn hB5 ⊢
        have hMM := hMn'h.out W5 hVn hRn hB5
        clear hW5 hVn hRn hB5 q0 q1 q2 q3 q4 q5 q6 q7 q8 q9 hc3 p0 p1 p2 p3 p4 p5 p6 p7 p8 p9 hc6
        have hMM'h := Lib.hid hMM
        clear hMM
        go_wp2
        go_roundg (gk - 1)
        case measure => have := hkk'h.out; omega
        case rel => exact ⟨k + 1, s', by have := hkk'h.out; have := hkq'h.out; omega, int_succ hq, hMM'h.out⟩
    · have hh0 : hasS s = false := by simpa using hh1
      rw [hh0] at H
      have htg : tgt = (s, k) := by rw [← hM.goes]; exact runF_stop hh0
      subst htg
      have hone1 := sgA_one s
      clear hM
      have H'h := Lib.hid H
      have hV'h := Lib.hid hV
      have hRs'h := Lib.hid hRs
      have hold'h := Lib.hid hold
      have hle'h := Lib.hid hle
      have hVl'h := Lib.hid hVl
      have hRl'h := Lib.hid hRl
      have hone1'h := Lib.hid hone1
      have hh1'h := Lib.hid hh1
      have hh0'h := Lib.hid hh0
      have hkq'h := Lib.hid hkq
      clear H hV hRs hold hle hVl hRl hone1 hh1 hh0 hkq
      go_wp2_with (first | (refine wpList_load_row rfl _ _ rfl V rfl 33 (sgA s) (0, 0) _ hV'h.out Try.underlying33 rfl infoSg ?_) | (go_at_call 20; refine (H'h.out _).mono ?_; rintro e w3 ⟨rfl, hb3⟩; have hV3 := heap_below hb3 hV'h.out hVl'h.out; have hR3 := heap_below hb3 hRs'h.out hRl'h.out; have hV3'h := Lib.hid hV3; clear hV3; have hR3'h := Lib.hid hR3; clear hR3) | (refine wpList_load_row rfl _ _ rfl V rfl 33 (sgA s) (0, 0) _ hV3'h.out Try.underlying33 rfl infoSg ?_) | (refine wpList_store_row rfl _ _ _ rfl w.heap.size (sgA s) rfl rfl 33 _ hR3'h.out infoSg rfl hone1'h.out ?_))
      have hR := setRow_heap _ _ _ (sgA s) _ _ hR3'h.out
      have hB5 := below_setRow' (hold'h.out.trans (hb3.mono hold'h.out.size)) (Nat.le_refl w.heap.size) (sgA s)
      obtain ⟨c0, c1, c2, c3, c4, c5, c6, c7, c8, c9⟩ := SgC.of hR
      generalize w3.setRow w.heap.size (sgA s) = W5 at *
      refine bodyPost_ret (v := .tuple #[.agg (sgA s), .int .i64 (k : Nat)]) ?_ rfl ⟨rfl, hB5⟩
      simp [results, Try.results16, go_sem, c0, c1, c2, c3, c4, c5, c6, c7, c8, c9, sgA]
end Go.Proofs.Ytoklgjlmjkhmbaa

/-
  The document's answers of layer 18: Most.
-/
set_option linter.unusedSimpArgs false
set_option linter.unusedVariables false
set_option maxRecDepth 100000
namespace Go.Proofs.Ytoklgjlmjkhmbaa
open Go.RowKit

theorem tmod_two (x : Nat) : (x : Int).tmod 2 = ((x % 2 : Nat) : Int) := by rw [Int.tmod_eq_emod_of_nonneg (by omega)]; omega
set_option maxHeartbeats 4000000 in
theorem rmost_odd (sp : Option Addr) (n cap : Nat) (ws : List Nat) (slab hash : Nat) (w : World) (h64 : W64 ws) (hS : Sl w sp n (u64s ws)) (hn : 1 ≤ n ∧ n ≤ 8192) (ht : thereB n slab = true) (hev : nthN ws (16 + 40 * slab) % 2 = 1) :
    Calls Try.prog 17 #[.slice sp n cap, .int .i64 slab, .int .u64 hash] w fun e w' => e = .returned (.int .i64 1) ∧ Below w.heap.size w w' := by
  have hlen : n = ws.length := by have := hS.1; rwa [u64s_length] at this
  have ht' : slab < 128 ∧ 16 + 40 * slab + 39 < n := by unfold thereB at ht; simp at ht; omega
  have C := fun w => ref_cell slab 0 w ht'.1 (by omega)
  obtain ⟨ab, aoff, rfl, hcs⟩ := hS.some' (by omega)
  have c1 := hcs (16 + 40 * slab + 0) _ (u64s_at (by omega))
  have hlt : ((16 + 40 * slab + 0 : Nat) : Int) < (n : Int) := by omega
  have hd : decide (n ≤ 16 + 40 * slab + 0) = false := by simp; omega
  rw [Nat.add_zero] at *
  have ho : ((nthN ws (16 + 40 * slab) : Int) % 2 == 1) = true := by simp; omega
  have ho2 : ((nthN ws (16 + 40 * slab) : Int).tmod 2 == 1) = true := by rw [tmod_two]; simp; omega
  generalize nthN ws (16 + 40 * slab) = x at *
  generalize 16 + 40 * slab = cl at *
  clear hcs hS ht ht' hev
  have C'h := Lib.hid C
  have hlen'h := Lib.hid hlen
  clear C hlen
  go_enter Try.func17, Try.ntmps17
  go_wp2_with (go_at_call 10; refine (C'h.out _).mono ?_; rintro e w2 ⟨rfl, rfl⟩)
  go_ret
  exact ⟨rfl, Below.refl _ _⟩
set_option maxHeartbeats 4000000 in
theorem rmost_even (sp : Option Addr) (n cap : Nat) (ws : List Nat) (slab hash : Nat) (w : World) (h64 : W64 ws) (hS : Sl w sp n (u64s ws)) (hn : 1 ≤ n ∧ n ≤ 8192) (ht : thereB n slab = true) (hh : hash < 2 ^ 64) (hev : nthN ws (16 + 40 * slab) % 2 ≠ 1) :
    Calls Try.prog 17 #[.slice sp n cap, .int .i64 slab, .int .u64 hash] w fun e w' => e = .returned (.int .i64 (mostS ws slab hash)) ∧ Below w.heap.size w w' := by
  have hlen : n = ws.length := by have := hS.1; rwa [u64s_length] at this
  have ht' : slab < 128 ∧ 16 + 40 * slab + 39 < n := by unfold thereB at ht; simp at ht; omega
  have C0 := fun w => ref_cell slab 0 w ht'.1 (by omega)
  have C := fun j w => ref_cell slab (4 + prB 2 (hash / 128) j) w ht'.1 (by have := prB2 (hash / 128) j; omega)
  have hms : mostS ws slab hash = accK (groupsOf ws slab (hash / 128)) (hash % 128) (groupsOf ws slab (hash / 128)).length := by
    unfold mostS; rw [if_neg hev]
  have H1 := fun w => ref_h1 hash w hh
  have H2 := fun w => ref_h2 hash w hh
  have R := fun w => ref_row 2 (hash / 128) w rfl (by omega)
  obtain ⟨ab, aoff, rfl, hcs⟩ := hS.some' (by omega)
  have c1 := hcs (16 + 40 * slab + 0) _ (u64s_at (by omega))
  have hlt : ((16 + 40 * slab + 0 : Nat) : Int) < (n : Int) := by omega
  have hp2 := prB2 (hash / 128)
  have hce : ∀ j, w.cell? ⟨ab, aoff + (16 + 40 * slab + (4 + prB 2 (hash / 128) j)), none⟩ = some (.int .u64 (ctlW ws slab (hash / 128) j)) := fun j => by
    have := hp2 j
    exact hcs _ _ (u64s_at (by omega))
  have hcl : ∀ j, ((16 + 40 * slab + (4 + prB 2 (hash / 128) j) : Nat) : Int) < (n : Int) := fun j => by have := hp2 j; omega
  have hc64 : ∀ j, ctlW ws slab (hash / 128) j < 2 ^ 64 := fun j => by unfold ctlW; have := hp2 j; exact h64 _ (nthN_mem (by omega))
  rw [Nat.add_zero] at *
  have ho : ((nthN ws (16 + 40 * slab) : Int) % 2 == 1) = false := by simp; omega
  have ho2 : ((nthN ws (16 + 40 * slab) : Int).tmod 2 == 1) = false := by rw [tmod_two]; simp; omega
  have hx : groupsOf ws slab (hash / 128) = if equalM (ctlW ws slab (hash / 128) 0) 128 = 0 then [ctlW ws slab (hash / 128) 0, ctlW ws slab (hash / 128) 1] else [ctlW ws slab (hash / 128) 0] := rfl
  rw [hx] at hms
  generalize mostS ws slab hash = ms at *
  generalize nthN ws (16 + 40 * slab) = x at *
  generalize hcc : ctlW ws slab (hash / 128) = ct at *
  have hd2 : (hash % 128) < 256 := by omega
  generalize hash % 128 = h2 at *
  generalize hash / 128 = h1 at *
  have hA := fun m hm w => refAll_any m w hm
  have hE := fun x b w hx hb => refEqual_any x b w hx hb
  clear hcs hS ht hev hx hcc h64 hlen
  have C0'h := Lib.hid C0
  have C'h := Lib.hid C
  have hms'h := Lib.hid hms
  have H1'h := Lib.hid H1
  have H2'h := Lib.hid H2
  have R'h := Lib.hid R
  have hce'h := Lib.hid hce
  have hcl'h := Lib.hid hcl
  have hc64'h := Lib.hid hc64
  have hA'h := Lib.hid hA
  have hE'h := Lib.hid hE
  have hp2'h := Lib.hid hp2
  have hd2'h := Lib.hid hd2
  have ht''h := Lib.hid ht'
  have hn'h := Lib.hid hn
  have hh'h := Lib.hid hh
  clear C0 C hms H1 H2 R hce hcl hc64 hA hE hp2 hd2 ht' hn hh
  go_enter Try.func17, Try.ntmps17
  go_wp2_with (first | (go_at_call 10; refine (C0'h.out _).mono ?_; rintro e w2 ⟨rfl, hw2⟩; obtain rfl := hw2.symm) | (go_at_call 42; refine (H1'h.out _).mono ?_; rintro e w2 ⟨rfl, hw2⟩; obtain rfl := hw2.symm) | (go_at_call 41; refine (R'h.out _).mono ?_; rintro e w3 ⟨rs, rcap, rfl, hB3, hrow3⟩))
  have hrc : ∃ rg, rs = some ⟨rg, 0, none⟩ ∧ ∀ j, j < 2 → w3.cell? ⟨rg, j, none⟩ = some (.int .i64 (prB 2 h1 j)) := by
    rcases hrow3.2 with ⟨_, h0⟩ | ⟨rg, cp, cur, e1, _⟩
    · omega
    · injection e1 with e1
      subst e1
      exact ⟨rg, rfl, fun j hj => row_cell hrow3 hj (zN_row hj)⟩
  obtain ⟨rg, rfl, hrc⟩ := hrc
  clear hrow3
  have hrc'h := Lib.hid hrc
  have hB3'h := Lib.hid hB3
  clear hrc hB3
  go_loopg [7, 22] 2 (fun q v i wr => ∃ k : Nat, k + q = 2 ∧ i = .int .i64 k ∧ v = .int .i64 (accK [ct 0, ct 1] h2 k) ∧ Below w.heap.size w wr ∧ (∀ j, j < 2 → wr.cell? ⟨rg, j, none⟩ = some (.int .i64 (prB 2 h1 j))) ∧ (1 ≤ k → equalM (ct 0) 128 = 0))
  case atStart => exact ⟨0, rfl, rfl, rfl, hB3'h.out, hrc'h.out, fun h => absurd h (by omega)⟩
  case round =>
    obtain ⟨k, hk, rfl, rfl, hB, hr, hfl⟩ := hrel
    by_cases hk2 : k < 2
    · have hdk : decide ((k : Int) < 2) = true := by simp; omega
      have hlk : (k : Int) < 2 := by omega
      have r1 := hr k hk2
      have hc1 : wr.cell? ⟨ab, aoff + (16 + 40 * slab + (4 + prB 2 h1 k)), none⟩ = some (.int .u64 (ct k)) := (hB.cell (lt_of_cell (hce'h.out k))).trans (hce'h.out k)
      have hclk := hcl'h.out k
      have hpk := hp2'h.out k
      have hpk' : (prB 2 h1 k : Int) < 2 := by omega
      have Ck := C'h.out k
      rw [show ((4 + prB 2 h1 k : Nat) : Int) = 4 + (prB 2 h1 k : Int) by omega] at Ck
      have E2 := fun w => hE'h.out (ct k) h2 w (hc64'h.out k) hd2'h.out
      have E8 := fun w => hE'h.out (ct k) 128 w (hc64'h.out k) (by decide)
      have A2 := hA'h.out (equalM (ct k) h2) (equalM_lt8 _ _)
      have hsu : accK [ct 0, ct 1] h2 (k + 1) = accK [ct 0, ct 1] h2 k + (1 + (lanesOf (equalM (ct k) h2)).length) := by
        rw [accK_succ _ _ (by simpa using hk2)]
        rcases (show k = 0 ∨ k = 1 by omega) with rfl | rfl <;> rfl
      have hle := accK_le [ct 0, ct 1] h2 k (by simp)
      have hl8 : (lanesOf (equalM (ct k) h2)).length ≤ 8 := length_lanesOf _
      have hend : equalM (ct k) 128 ≠ 0 → ms = accK [ct 0, ct 1] h2 (k + 1) := fun h => by
        rcases (show k = 0 ∨ k = 1 by omega) with rfl | rfl
        · rw [hms'h.out, if_neg h]; rfl
        · rw [hms'h.out, if_pos (hfl (by omega))]; rfl
      have hnext : equalM (ct k) 128 = 0 → equalM (ct 0) 128 = 0 := fun h => by
        rcases (show k = 0 ∨ k = 1 by omega) with rfl | rfl
        · exact h
        · exact hfl (by omega)
      generalize hga : accK [ct 0, ct 1] h2 (k + 1) = a1 at *
      have hga'h := Lib.hid hga
      clear hga
      generalize accK [ct 0, ct 1] h2 k = a0 at *
      generalize ct k = ck at *
      generalize prB 2 h1 k = pk at *
      generalize 16 + 40 * slab + (4 + pk) = cl at *
      clear hpk
      by_cases hz : equalM ck 128 = 0
      · have d2 : ((equalM ck 128 : Int) != 0) = false := by simp [hz]
        have hn0 := hnext hz
        clear hnext hend hz
        generalize equalM ck 128 = m8 at *
        have hk'h := Lib.hid hk
        have hB'h := Lib.hid hB
        have hr'h := Lib.hid hr
        have hfl'h := Lib.hid hfl
        have Ck'h := Lib.hid Ck
        have E2'h := Lib.hid E2
        have E8'h := Lib.hid E8
        have A2'h := Lib.hid A2
        have hsu'h := Lib.hid hsu
        have hn0'h := Lib.hid hn0
        have hk2'h := Lib.hid hk2
        clear hk hB hr hfl Ck E2 E8 A2 hsu hn0 hk2
        go_upto_region 9 with (first | (go_at_call 10; refine (Ck'h.out _).mono ?_; rintro e w2 ⟨rfl, rfl⟩) | (go_at_call 45; refine (H2'h.out _).mono ?_; rintro e w2 ⟨rfl, rfl⟩) | (go_at_call 44; refine (E2'h.out _).mono ?_; rintro e w4 ⟨rfl, hB4⟩) | (go_at_call 43; refine (A2'h.out _).mono ?_; rintro e w5 ⟨ls, ln, lc, rfl, hB5, hrow5⟩; obtain rfl := ownsRow_len hrow5; clear hrow5))
        go_wp2_with (go_at_call 44; refine (E8'h.out _).mono ?_; rintro e w6 ⟨rfl, hB6⟩)
        have hBB := below_next (below_next hB4 hB5) hB6
        clear hB4 hB5 hB6
        have hBB'h := Lib.hid hBB
        clear hBB
        go_roundg (gk - 1)
        case measure => have := hk'h.out; have := hk2'h.out; omega
        case rel => exact ⟨k + 1, by have := hk'h.out; have := hk2'h.out; omega, by go_num, by rw [hga'h.out, hsu'h.out]; go_num, below_next hB'h.out hBB'h.out, fun j hj => (hBB'h.out.cell (lt_of_cell (hr'h.out j hj))).trans (hr'h.out j hj), fun _ => hn0'h.out⟩
      · have d2 : ((equalM ck 128 : Int) != 0) = true := by simp; omega
        have hms1 := hend hz
        clear hnext hend hz
        generalize equalM ck 128 = m8 at *
        have hk'h := Lib.hid hk
        have hB'h := Lib.hid hB
        have hr'h := Lib.hid hr
        have hfl'h := Lib.hid hfl
        have Ck'h := Lib.hid Ck
        have E2'h := Lib.hid E2
        have E8'h := Lib.hid E8
        have A2'h := Lib.hid A2
        have hsu'h := Lib.hid hsu
        have hms1'h := Lib.hid hms1
        have hk2'h := Lib.hid hk2
        clear hk hB hr hfl Ck E2 E8 A2 hsu hms1 hk2
        go_upto_region 9 with (first | (go_at_call 10; refine (Ck'h.out _).mono ?_; rintro e w2 ⟨rfl, rfl⟩) | (go_at_call 45; refine (H2'h.out _).mono ?_; rintro e w2 ⟨rfl, rfl⟩) | (go_at_call 44; refine (E2'h.out _).mono ?_; rintro e w4 ⟨rfl, hB4⟩) | (go_at_call 43; refine (A2'h.out _).mono ?_; rintro e w5 ⟨ls, ln, lc, rfl, hB5, hrow5⟩; obtain rfl := ownsRow_len hrow5; clear hrow5))
        go_wp2_with (go_at_call 44; refine (E8'h.out _).mono ?_; rintro e w6 ⟨rfl, hB6⟩)
        go_ret
        refine ⟨?_, below_next hB'h.out (below_next (below_next hB4 hB5) hB6)⟩
        rw [hms1'h.out, hsu'h.out]
        go_num
    · have hke : k = 2 := by omega
      subst hke
      have hfin : ms = accK [ct 0, ct 1] h2 2 := by rw [hms'h.out, if_pos (hfl (by omega))]; rfl
      generalize accK [ct 0, ct 1] h2 2 = a2 at *
      clear hr hk hk2 hfl
      have hB'h := Lib.hid hB
      have hfin'h := Lib.hid hfin
      clear hB hfin
      go_wp2
      go_ret
      exact ⟨by rw [hfin'h.out]; rfl, hB'h.out⟩
end Go.Proofs.Ytoklgjlmjkhmbaa

/-
  The statements of layer 18: what they make.
-/
set_option linter.unusedSimpArgs false
set_option linter.unusedVariables false
set_option maxRecDepth 100000
namespace Go.Proofs.Ytoklgjlmjkhmbaa
open Go.RowKit

def smallL : List Nat := ((((List.replicate 56 0).set 16 6).set 20 9259542123273814017 |>.set 21 9259542123273814144).set 22 5).set 38 50
theorem wakes_vals : (runS smallL 0 5 1).1.phase = 5 ∧ (runS smallL 0 5 1).1.found = true ∧ (runS smallL 0 5 1).1.value = 50 ∧ (runS smallL 0 5 1).2 = 5 ∧ (runS smallL 0 6 1).1.found = false ∧ (runS smallL 0 6 1).2 = 4 ∧ (runS smallL 0 5 2).1.found = false ∧ (runS smallL 0 5 2).2 = 3 ∧ (runS (smallL.set 16 7) 0 5 1).1.phase = 6 ∧ (runS (smallL.set 16 7) 0 5 1).2 = 1 ∧ mostS smallL 0 1 = 4 := by decide +kernel
def zero56 : List Nat := List.replicate 56 0
theorem info_u64w : (Try.prog.info? 29).map (fun i => (i.zero, i.size, i.bytes)) = some (some (.int .u64 0), 1, 8) := by kernel_rfl
set_option maxHeartbeats 1000000 in
theorem small_any (w : World) : Calls Try.prog 35 #[] w fun e w' => e = .returned (.slice (some ⟨w.heap.size, 0, none⟩) 56 56) ∧ Below w.heap.size w w' ∧ w'.heap[w.heap.size]? = some (.cells (u64s smallL).toArray 29 (0, 0)) := by
  have hmk := fun w => run_make_row' (P := Try.prog) 22 29 (.int .u64 0) 8 Try.underlying22 info_u64w rfl .i64 .i64 56 (by omega) (by omega) w
  have hz : madeCells #[Value.int .u64 0] 56 = (u64s zero56).toArray := by kernel_rfl
  rw [hz] at hmk
  clear hz
  simp only [show ((56 : Nat) : Int) = 56 from rfl] at hmk
  go_enter Try.func35, Try.ntmps35
  go_upto_region 2 with fail
  have hg := World.alloc_heap_new w (.cells (u64s zero56).toArray 29)
  have hb := (Below.refl w.heap.size w).alloc (Nat.le_refl _) (.cells (u64s zero56).toArray 29)
  generalize hW : w.alloc (.cells (u64s zero56).toArray 29) = W at hg hb ⊢
  clear hW
  have c16 : W.cell? ⟨w.heap.size, 16, none⟩ = some (.int .u64 0) := blk_cell hg rfl
  have c20 : W.cell? ⟨w.heap.size, 20, none⟩ = some (.int .u64 0) := blk_cell hg rfl
  have c21 : W.cell? ⟨w.heap.size, 21, none⟩ = some (.int .u64 0) := blk_cell hg rfl
  have c22 : W.cell? ⟨w.heap.size, 22, none⟩ = some (.int .u64 0) := blk_cell hg rfl
  have c38 : W.cell? ⟨w.heap.size, 38, none⟩ = some (.int .u64 0) := blk_cell hg rfl
  have f := fun i => blk_free i hg
  have f16 := f 16
  have f20 := f 20
  have f21 := f 21
  have f22 := f 22
  have f38 := f 38
  have h5 := blk_set (i := 38) (.int .u64 50) (blk_set (i := 22) (.int .u64 5) (blk_set (i := 21) (.int .u64 9259542123273814144) (blk_set (i := 20) (.int .u64 9259542123273814017) (blk_set (i := 16) (.int .u64 6) hg))))
  have he : ((((((u64s zero56).toArray.setIfInBounds 16 (.int .u64 6)).setIfInBounds 20 (.int .u64 9259542123273814017)).setIfInBounds 21 (.int .u64 9259542123273814144)).setIfInBounds 22 (.int .u64 5)).setIfInBounds 38 (.int .u64 50)) = (u64s smallL).toArray := by kernel_rfl
  have h5 := h5.trans (congrArg (fun c => some (Obj.cells c 29 (0, 0))) he)
  clear he
  have hb5 := ((((hb.setCell (p := ⟨w.heap.size, 16, none⟩) (Nat.le_refl _) (.int .u64 6)).setCell (p := ⟨w.heap.size, 20, none⟩) (Nat.le_refl _) (.int .u64 9259542123273814017)).setCell (p := ⟨w.heap.size, 21, none⟩) (Nat.le_refl _) (.int .u64 9259542123273814144)).setCell (p := ⟨w.heap.size, 22, none⟩) (Nat.le_refl _) (.int .u64 5)).setCell (p := ⟨w.heap.size, 38, none⟩) (Nat.le_refl _) (.int .u64 50)
  have hg'h := Lib.hid hg
  have hb'h := Lib.hid hb
  have h5'h := Lib.hid h5
  have hb5'h := Lib.hid hb5
  have hmk'h := Lib.hid hmk
  have f'h := Lib.hid f
  clear hg hb h5 hb5 hmk f
  go_wp2
  go_ret
  exact ⟨rfl, hb5'h.out, h5'h.out⟩
end Go.Proofs.Ytoklgjlmjkhmbaa

/-
  The statements of layer 18: a row of one's own.
-/
set_option linter.unusedSimpArgs false
set_option linter.unusedVariables false
set_option maxRecDepth 100000
namespace Go.Proofs.Ytoklgjlmjkhmbaa
open Go.RowKit

/-! ### slices.Clone at []uint64 -/
theorem info_clone64 : (Try.prog.info? 29).map (fun i => (i.zero, i.size, i.bytes)) = some (some (.int .u64 0), 1, 8) := by kernel_rfl
theorem clone64_nil (w : World) : Calls Try.prog 27 #[.slice none 0 0] w fun e w' => e = .returned (.slice none 0 0) ∧ w' = w := by
  have hnil := Lib.run_eql_slice_nil (P := Try.prog)
  go_enter Try.func27, Try.ntmps27
  go_wp2
  go_ret
  exact ⟨rfl, rfl⟩
theorem clone64_some (ad : Addr) (n cap : Nat) (vs : List Value) (w : World) (hn : n ≤ 4096) (hone : ∀ v ∈ vs, v.oneCell' = true) (h : Sl w (some ad) n vs) :
    Calls Try.prog 27 #[.slice (some ad) n cap] w fun e w' => ∃ sp' cap', e = .returned (.slice sp' n cap') ∧ Below w.heap.size w w' ∧ w'.ownsRow w.heap.size 29 1 (.slice sp' n cap') n vs := by
  have hnil := Lib.run_eql_slice_nil (P := Try.prog)
  obtain ⟨i0, hi, hz0, hz1, hz2⟩ := info_parts info_clone64
  have hown0 : (w.alloc (.cells #[] 29)).ownsRow w.heap.size 29 1 (.slice (some ⟨w.heap.size, 0, none⟩) 0 0) 0 [] :=
    ⟨rfl, .inr ⟨w.heap.size, 0, #[], rfl, Nat.le_refl _, World.alloc_heap_new _ _, Nat.le_refl _, Nat.zero_le _, rfl, rfl⟩⟩
  have hl := h.1
  have hcs : ∀ j u, vs[j]? = some u → (w.alloc (.cells #[] 29)).cell? (ad.add j) = some u := by
    intro j u hu
    have hj : j < vs.length := (List.getElem?_eq_some_iff.1 hu).1
    obtain ⟨b, off, he, hc⟩ := h.some' (by omega)
    cases he
    have hadd : (⟨b, off, none⟩ : Addr).add j = ⟨b, off + j, none⟩ := by unfold Addr.add; split <;> simp_all
    rw [hadd]
    exact keep_alloc _ _ _ _ (hc j u hu)
  have hcs'h := Lib.hid hcs
  have hl'h := Lib.hid hl
  have hone'h := Lib.hid hone
  clear hcs hl hone
  clear h
  go_enter Try.func27, Try.ntmps27
  go_wp2_with (at_builtin; refine wpList_append_own _ rfl (.tmp 5) (.tmp 6) 22 rfl w.heap.size 29 i0 (.int .u64 0) 1 8 Try.underlying22 hi hz0 hz1 hz2 rfl (by decide) _ 0 [] rfl hown0 ad n cap vs rfl (by rw [← hl'h.out]; omega) hcs'h.out hone'h.out (by unfold maxLen; omega) (by omega) (by simp) ?_; intro v' w1 hown' hgrow hwh)
  rw [Nat.zero_add, List.nil_append] at hown'
  obtain ⟨sp', cap', rfl⟩ := row_slice' hown'
  have hown''h := Lib.hid hown'
  have hwh'h := Lib.hid hwh
  clear hown' hwh
  go_wp2
  go_ret
  exact ⟨sp', cap', rfl, ((Below.refl _ w).alloc (Nat.le_refl _) _).grown hgrow (by simp) (fun j hj => by cases hj; exact Nat.le_refl _), hown''h.out⟩
theorem clone64_any (sp : Option Addr) (n cap : Nat) (vs : List Value) (w : World) (hn : n ≤ 4096) (hone : ∀ v ∈ vs, v.oneCell' = true) (hc : sp = none → cap = 0) (h : Sl w sp n vs) :
    Calls Try.prog 27 #[.slice sp n cap] w fun e w' => ∃ sp' cap', e = .returned (.slice sp' n cap') ∧ Below w.heap.size w w' ∧ w'.ownsRow w.heap.size 29 1 (.slice sp' n cap') n vs := by
  cases sp with
  | some ad => exact clone64_some ad n cap vs w hn hone h
  | none =>
    obtain rfl : cap = 0 := hc rfl
    have h0 : n = 0 := by
      rcases h.2.2 with h0 | ⟨b, off, he, _⟩
      · exact h0
      · cases he
    subst h0
    have hl : vs = [] := List.eq_nil_of_length_eq_zero h.1.symm
    refine (clone64_nil w).mono ?_
    rintro e w' ⟨rfl, rfl⟩
    exact ⟨none, 0, rfl, Below.refl _ _, by rw [hl]; exact World.ownsRow_nil _ _ _ _⟩
theorem own_min (n m : Nat) (h : m = min n 140) : (if (140 : Int) < (n : Int) then (140 : Int) else (n : Int)) = (m : Int) := by
  split <;> omega
theorem own_any (sp : Option Addr) (n cap m : Nat) (ws : List Nat) (w : World) (hS : Sl w sp n (u64s ws)) (hc : sp = none → cap = 0) (hnc : n ≤ cap) (hm : m = min n 140) (hn : n ≤ 9223372036854775807) :
    Calls Try.prog 8 #[.slice sp n cap] w fun e w' => ∃ sp' cap', e = .returned (.slice sp' m cap') ∧ Below w.heap.size w w' ∧ w'.ownsRow w.heap.size 29 1 (.slice sp' m cap') m (u64s (ws.take m)) := by
  have hmi := own_min n m hm
  have hSm := hS.take m (by omega)
  rw [u64s_take] at hSm
  have q3 : m ≤ cap := by omega
  have K := fun w h => clone64_any sp m cap (u64s (ws.take m)) w (by omega) (by unfold u64s; intro v hv; obtain ⟨k, _, rfl⟩ := List.mem_map.1 hv; rfl) hc h
  have hS'h := Lib.hid hS
  have hc'h := Lib.hid hc
  have hnc'h := Lib.hid hnc
  have hm'h := Lib.hid hm
  have hSm'h := Lib.hid hSm
  have K'h := Lib.hid K
  clear hS hc hnc hm hSm K
  go_enter Try.func8, Try.ntmps8
  go_wp2_with (go_at_call 27; refine (K'h.out _ hSm'h.out).mono ?_; rintro e w2 ⟨sp', cap', rfl, hb, hrow⟩)
  go_ret
  exact ⟨sp', cap', rfl, hb, hrow⟩
end Go.Proofs.Ytoklgjlmjkhmbaa

/-
  The statements of layer 18: what the layer makes of the small cells.
-/
set_option linter.unusedSimpArgs false
set_option linter.unusedVariables false
set_option maxRecDepth 100000
namespace Go.Proofs.Ytoklgjlmjkhmbaa
open Go.RowKit

theorem small_sl {w : World} {g : Nat} {ws : List Nat} (h : w.heap[g]? = some (.cells (u64s ws).toArray 29 (0, 0))) (hl : ws.length = 56) : Sl w (some ⟨g, 0, none⟩) 56 (u64s ws) := by
  have := Sl.of_blk h (by simp [u64s, hl, maxLen])
  simpa [u64s, hl] using this
theorem small_64 : W64 smallL := by unfold W64; decide +kernel
theorem small7_64 : W64 (smallL.set 16 7) := by unfold W64; decide +kernel
theorem run_small (key hash : Nat) (g : Nat) (w : World) (hk : key < 2 ^ 64) (hh : hash < 2 ^ 64) (h : w.heap[g]? = some (.cells (u64s smallL).toArray 29 (0, 0))) :
    Calls Try.prog 13 #[.slice (some ⟨g, 0, none⟩) 56 56, .int .i64 0, .int .u64 key, .int .u64 hash] w fun e w' => e = .returned (.tuple #[.agg (sgA (runS smallL 0 key hash).1), .int .i64 ((runS smallL 0 key hash).2 : Nat), .int .i64 0]) ∧ Below w.heap.size w w' :=
  run_yes _ 56 56 smallL 0 key hash w small_64 (small_sl h rfl) (by decide) (by decide) hk hh
theorem run_odd (key hash : Nat) (g : Nat) (w : World) (hk : key < 2 ^ 64) (hh : hash < 2 ^ 64) (h : w.heap[g]? = some (.cells (u64s (smallL.set 16 7)).toArray 29 (0, 0))) :
    Calls Try.prog 13 #[.slice (some ⟨g, 0, none⟩) 56 56, .int .i64 0, .int .u64 key, .int .u64 hash] w fun e w' => e = .returned (.tuple #[.agg (sgA (runS (smallL.set 16 7) 0 key hash).1), .int .i64 ((runS (smallL.set 16 7) 0 key hash).2 : Nat), .int .i64 0]) ∧ Below w.heap.size w w' :=
  run_yes _ 56 56 (smallL.set 16 7) 0 key hash w small7_64 (small_sl h rfl) (by decide) (by decide) hk hh
theorem most_small (g : Nat) (w : World) (h : w.heap[g]? = some (.cells (u64s smallL).toArray 29 (0, 0))) :
    Calls Try.prog 14 #[.slice (some ⟨g, 0, none⟩) 56 56, .int .i64 0, .int .u64 1] w fun e w' => e = .returned (.tuple #[.int .i64 4, .int .i64 0]) ∧ Below w.heap.size w w' := by
  have := most_even _ 56 56 smallL 0 1 w small_64 (small_sl h rfl) (by decide) (by decide) (by decide) (by decide +kernel)
  rw [wakes_vals.2.2.2.2.2.2.2.2.2.2] at this
  exact this
end Go.Proofs.Ytoklgjlmjkhmbaa

/-
  The statements of layer 18: wakes.
-/
set_option linter.unusedSimpArgs false
set_option linter.unusedVariables false
set_option maxRecDepth 100000
namespace Go.Proofs.Ytoklgjlmjkhmbaa
open Go.RowKit

theorem stored_s (s : Sg) (w : World) : ((w.alloc (.cells #[.int .i64 0, .int .i64 0, .int .u64 0, .int .u64 0, .int .u64 0, .int .i64 0, .int .u64 0, .int .u8 0, .int .u64 0, .bool false] 33)).setRow w.heap.size (sgA s)).heap[w.heap.size]? = some (.cells (sgA s) 33 (0, 0)) ∧ Below w.heap.size w ((w.alloc (.cells #[.int .i64 0, .int .i64 0, .int .u64 0, .int .u64 0, .int .u64 0, .int .i64 0, .int .u64 0, .int .u8 0, .int .u64 0, .bool false] 33)).setRow w.heap.size (sgA s)) :=
  ⟨setRow_heap _ _ _ _ _ _ (World.alloc_heap_new w _), below_setRow' ((Below.refl _ _).alloc (Nat.le_refl _) _) (Nat.le_refl _) _⟩
set_option maxHeartbeats 1000000 in
theorem wakes18_any (w : World) : Calls Try.prog 7 #[] w fun e w' => e = .returned (.bool true) ∧ Below w.heap.size w w' := by
  have wk := wakes_vals
  have R1 := fun g w => run_small 5 1 g w (by decide) (by decide)
  have R2 := fun g w => run_small 6 1 g w (by decide) (by decide)
  have R3 := fun g w => run_small 5 2 g w (by decide) (by decide)
  have R4 := fun g w => run_odd 5 1 g w (by decide) (by decide)
  generalize runS smallL 0 5 1 = r1 at *
  generalize runS smallL 0 6 1 = r2 at *
  generalize runS smallL 0 5 2 = r3 at *
  generalize runS (smallL.set 16 7) 0 5 1 = r4 at *
  have wk'h := Lib.hid wk
  have R1'h := Lib.hid R1
  have R2'h := Lib.hid R2
  have R3'h := Lib.hid R3
  have R4'h := Lib.hid R4
  clear wk R1 R2 R3 R4
  go_enter Try.func7, Try.ntmps7
  go_upto_region 2 with (first | (go_at_call 35; refine (small_any _).mono ?_; rintro e w1a ⟨rfl, hb1a, hg1⟩) | (go_at_call 13; refine (R1'h.out _ _ hg1).mono ?_; rintro e w1b ⟨rfl, hb1b⟩) | (refine wpList_store_row rfl _ _ _ rfl w1b.heap.size (sgA r1.1) rfl rfl 33 _ (World.alloc_heap_new _ _) infoSg rfl (sgA_one _) ?_))
  obtain ⟨hs1, hc1⟩ := stored_s r1.1 w1b
  have hB1 := below_next hb1a (below_next hb1b hc1)
  generalize hW : (w1b.alloc (.cells #[.int .i64 0, .int .i64 0, .int .u64 0, .int .u64 0, .int .u64 0, .int .i64 0, .int .u64 0, .int .u8 0, .int .u64 0, .bool false] 33)).setRow w1b.heap.size (sgA r1.1) = W1 at hs1 hc1 hB1 ⊢
  clear hW hg1 hb1a hc1
  have hs1'h := Lib.hid hs1
  have hB1'h := Lib.hid hB1
  have hb1b'h := Lib.hid hb1b
  clear hs1 hB1 hb1b
  go_upto_region 3 with (first | (go_at_call 35; refine (small_any _).mono ?_; rintro e w2a ⟨rfl, hb2a, hg2⟩) | (go_at_call 13; refine (R2'h.out _ _ hg2).mono ?_; rintro e w2b ⟨rfl, hb2b⟩) | (refine wpList_store_row rfl _ _ _ rfl w2b.heap.size (sgA r2.1) rfl rfl 33 _ (World.alloc_heap_new _ _) infoSg rfl (sgA_one _) ?_))
  obtain ⟨hs2, hc2⟩ := stored_s r2.1 w2b
  have hB2 := below_next hb2a (below_next hb2b hc2)
  generalize hW : (w2b.alloc (.cells #[.int .i64 0, .int .i64 0, .int .u64 0, .int .u64 0, .int .u64 0, .int .i64 0, .int .u64 0, .int .u8 0, .int .u64 0, .bool false] 33)).setRow w2b.heap.size (sgA r2.1) = W2 at hs2 hc2 hB2 ⊢
  clear hW hg2 hb2a hc2
  have hs2'h := Lib.hid hs2
  have hB2'h := Lib.hid hB2
  have hb2b'h := Lib.hid hb2b
  clear hs2 hB2 hb2b
  go_upto_region 4 with (first | (go_at_call 35; refine (small_any _).mono ?_; rintro e w3a ⟨rfl, hb3a, hg3⟩) | (go_at_call 13; refine (R3'h.out _ _ hg3).mono ?_; rintro e w3b ⟨rfl, hb3b⟩) | (refine wpList_store_row rfl _ _ _ rfl w3b.heap.size (sgA r3.1) rfl rfl 33 _ (World.alloc_heap_new _ _) infoSg rfl (sgA_one _) ?_))
  obtain ⟨hs3, hc3⟩ := stored_s r3.1 w3b
  have hB3 := below_next hb3a (below_next hb3b hc3)
  generalize hW : (w3b.alloc (.cells #[.int .i64 0, .int .i64 0, .int .u64 0, .int .u64 0, .int .u64 0, .int .i64 0, .int .u64 0, .int .u8 0, .int .u64 0, .bool false] 33)).setRow w3b.heap.size (sgA r3.1) = W3 at hs3 hc3 hB3 ⊢
  clear hW hg3 hb3a hc3
  have hs3'h := Lib.hid hs3
  have hB3'h := Lib.hid hB3
  have hb3b'h := Lib.hid hb3b
  clear hs3 hB3 hb3b
  go_upto_region 5 with (first | (go_at_call 35; refine (small_any _).mono ?_; rintro e w4a ⟨rfl, hb4a, hg4⟩))
  have c16 : w4a.cell? ⟨W3.heap.size, 16, none⟩ = some (.int .u64 6) := blk_cell hg4 rfl
  have f16 : w4a.frozen? ⟨W3.heap.size, 16, none⟩ = false := blk_free 16 hg4
  have hg7 := blk_set (i := 16) (.int .u64 7) hg4
  have he : (u64s smallL).toArray.setIfInBounds 16 (.int .u64 7) = (u64s (smallL.set 16 7)).toArray := by kernel_rfl
  have hg4 := hg7.trans (congrArg (fun c => some (Obj.cells c 29 (0, 0))) he)
  have hb4 := hb4a.setCell (p := ⟨W3.heap.size, 16, none⟩) (Nat.le_refl _) (.int .u64 7)
  clear he hg7 hb4a
  have hg4'h := Lib.hid hg4
  have hb4'h := Lib.hid hb4
  clear hg4 hb4
  go_upto_region 6 with fail
  clear c16 f16
  have hg4 := hg4'h.out
  have hb4 := hb4'h.out
  generalize w4a.setCell ⟨W3.heap.size, 16, none⟩ (.int .u64 7) = w4c at hg4 hb4 ⊢
  have hb4'h := Lib.hid hb4
  clear hb4
  go_upto_region 7 with (first | (go_at_call 13; refine (R4'h.out _ _ hg4).mono ?_; rintro e w4b ⟨rfl, hb4b⟩) | (refine wpList_store_row rfl _ _ _ rfl w4b.heap.size (sgA r4.1) rfl rfl 33 _ (World.alloc_heap_new _ _) infoSg rfl (sgA_one _) ?_))
  obtain ⟨hs4, hc4⟩ := stored_s r4.1 w4b
  have hB4 := below_next hb4'h.out (below_next hb4b hc4)
  generalize hW : (w4b.alloc (.cells #[.int .i64 0, .int .i64 0, .int .u64 0, .int .u64 0, .int .u64 0, .int .i64 0, .int .u64 0, .int .u8 0, .int .u64 0, .bool false] 33)).setRow w4b.heap.size (sgA r4.1) = W4 at hs4 hc4 hB4 ⊢
  clear hW hg4 hc4
  obtain ⟨v1, v2, v3, v4, v5, v6, v7, v8, v9, v10, _⟩ := wk'h.out
  have q1 := hs1'h.out
  have q2 := heap_below hB2'h.out q1 (lt_of_heap q1)
  have q3 := heap_below hB3'h.out q2 (lt_of_heap q2)
  have q4 := heap_below hB4 q3 (lt_of_heap q3)
  have t2 := hs2'h.out
  have t3 := heap_below hB3'h.out t2 (lt_of_heap t2)
  have t4 := heap_below hB4 t3 (lt_of_heap t3)
  have u3 := hs3'h.out
  have u4 := heap_below hB4 u3 (lt_of_heap u3)
  have hF : ∀ W', Below W4.heap.size W4 W' → W'.cell? ⟨w1b.heap.size, 0, none⟩ = some (.int .i64 5) ∧ W'.cell? ⟨w1b.heap.size, 9, none⟩ = some (.bool true) ∧ W'.cell? ⟨w1b.heap.size, 8, none⟩ = some (.int .u64 50) ∧ W'.cell? ⟨w2b.heap.size, 9, none⟩ = some (.bool false) ∧ W'.cell? ⟨w3b.heap.size, 9, none⟩ = some (.bool false) ∧ W'.cell? ⟨w4b.heap.size, 0, none⟩ = some (.int .i64 6) := by
    intro W' hb
    have a1 := SgC.of (heap_below hb q4 (lt_of_heap q4))
    have a2 := SgC.of (heap_below hb t4 (lt_of_heap t4))
    have a3 := SgC.of (heap_below hb u4 (lt_of_heap u4))
    have a4 := SgC.of (heap_below hb hs4 (lt_of_heap hs4))
    unfold SgC at a1 a2 a3 a4
    rw [v1, v2, v3] at a1
    rw [v5] at a2
    rw [v7] at a3
    rw [v9] at a4
    exact ⟨a1.1, a1.2.2.2.2.2.2.2.2.2, a1.2.2.2.2.2.2.2.2.1, a2.2.2.2.2.2.2.2.2.2, a3.2.2.2.2.2.2.2.2.2, a4.1⟩
  have n1 : ((r1.2 : Int) == 5) = true := by rw [v4]; rfl
  have n2 : ((r2.2 : Int) == 4) = true := by rw [v6]; rfl
  have n3 : ((r3.2 : Int) == 3) = true := by rw [v8]; rfl
  have n4 : ((r4.2 : Int) == 1) = true := by rw [v10]; rfl
  have hBB := below_next (below_next (below_next hB1'h.out hB2'h.out) hB3'h.out) hB4
  clear v1 v2 v3 v4 v5 v6 v7 v8 v9 v10 q1 q2 q3 q4 t2 t3 t4 u3 u4 hs4 hB4
  have hF'h := Lib.hid hF
  have hBB'h := Lib.hid hBB
  clear hF hBB
  go_wp2_with (first | (go_at_call 35; refine (small_any _).mono ?_; rintro e w5a ⟨rfl, hb5a, hg5⟩) | (go_at_call 14; refine (most_small _ _ hg5).mono ?_; rintro e w5b ⟨rfl, hb5b⟩; obtain ⟨p1, p2, p3, p4, p5, p6⟩ := hF'h.out _ (below_next hb5a hb5b)))
  go_ret
  exact ⟨rfl, below_next hBB'h.out (below_next hb5a hb5b)⟩
end Go.Proofs.Ytoklgjlmjkhmbaa

/-
  Slices of arrays of two words, as they read; slices.Clone there.
-/
set_option linter.unusedSimpArgs false
set_option linter.unusedVariables false
namespace Go.Proofs.Ytoklgjlmjkhmbaa
open Go.RowKit

def prs (ks : List (Nat × Nat)) : List Value := ks.flatMap fun p => [.int .u64 (p.1 : Int), .int .u64 (p.2 : Int)]
def nthP (ks : List (Nat × Nat)) (k : Nat) : Nat × Nat := ks.getD k (0, 0)
def P64 (ks : List (Nat × Nat)) : Prop := ∀ p ∈ ks, p.1 < 2 ^ 64 ∧ p.2 < 2 ^ 64
theorem nthP_eq {l : List (Nat × Nat)} {k : Nat} (h : k < l.length) : l[k] = nthP l k := by unfold nthP; rw [List.getD_eq_getElem?_getD, List.getElem?_eq_getElem h]; rfl
theorem nthP_mem {l : List (Nat × Nat)} {k : Nat} (h : k < l.length) : nthP l k ∈ l := by rw [← nthP_eq h]; exact List.getElem_mem h
theorem prs_length (ks : List (Nat × Nat)) : (prs ks).length = ks.length * 2 := by
  induction ks with
  | nil => rfl
  | cons p l ih => unfold prs at *; rw [List.flatMap_cons, List.length_append, ih]; simp; omega
theorem prs_append (a b : List (Nat × Nat)) : prs (a ++ b) = prs a ++ prs b := by unfold prs; rw [List.flatMap_append]
theorem prs_one (ks : List (Nat × Nat)) : ∀ v ∈ prs ks, v.oneCell' = true := by
  intro v hv
  unfold prs at hv
  obtain ⟨p, _, hp⟩ := List.mem_flatMap.1 hv
  simp at hp
  rcases hp with rfl | rfl <;> rfl
theorem prs_at {ks : List (Nat × Nat)} {k : Nat} (h : k < ks.length) : (prs ks)[k * 2]? = some (.int .u64 ((nthP ks k).1 : Int)) ∧ (prs ks)[k * 2 + 1]? = some (.int .u64 ((nthP ks k).2 : Int)) := by
  induction ks generalizing k with
  | nil => simp at h
  | cons p l ih =>
    cases k with
    | zero => exact ⟨rfl, rfl⟩
    | succ k =>
      have := ih (k := k) (by simpa using h)
      unfold prs at this ⊢
      rw [List.flatMap_cons]
      rw [show (k + 1) * 2 = k * 2 + 2 by omega, show k * 2 + 2 + 1 = (k * 2 + 1) + 2 by omega]
      exact this
theorem prs_take (ks : List (Nat × Nat)) (m : Nat) : (prs ks).take (m * 2) = prs (ks.take m) := by
  induction ks generalizing m with
  | nil => simp [prs]
  | cons p l ih =>
    cases m with
    | zero => simp [prs]
    | succ m =>
      have := ih m
      unfold prs at this ⊢
      rw [List.flatMap_cons, List.take_succ_cons, List.flatMap_cons, ← this, show (m + 1) * 2 = m * 2 + 2 by omega]
      rfl
/-! ### slices.Clone at [][2]uint64: 2 cells an element -/
theorem info_clone2 : (Try.prog.info? 30).map (fun i => (i.zero, i.size, i.bytes)) = some (some (.agg #[.int .u64 0, .int .u64 0]), 2, 16) := by kernel_rfl
theorem clone2_nil (w : World) : Calls Try.prog 11 #[.slice none 0 0] w fun e w' => e = .returned (.slice none 0 0) ∧ w' = w := by
  have hnil := Lib.run_eql_slice_nil (P := Try.prog)
  go_enter Try.func11, Try.ntmps11
  go_wp2
  go_ret
  exact ⟨rfl, rfl⟩
theorem clone2_some (ad : Addr) (n cap : Nat) (vs : List Value) (w : World) (hn : n ≤ 4096) (hone : ∀ v ∈ vs, v.oneCell' = true) (h : SlK w 2 (some ad) n vs) :
    Calls Try.prog 11 #[.slice (some ad) n cap] w fun e w' => ∃ sp' cap', e = .returned (.slice sp' n cap') ∧ Below w.heap.size w w' ∧ w'.ownsRow w.heap.size 30 2 (.slice sp' n cap') n vs := by
  have hnil := Lib.run_eql_slice_nil (P := Try.prog)
  obtain ⟨i0, hi, hz0, hz1, hz2⟩ := info_parts info_clone2
  have hown0 : (w.alloc (.cells #[] 30)).ownsRow w.heap.size 30 2 (.slice (some ⟨w.heap.size, 0, none⟩) 0 0) 0 [] :=
    ⟨by simp, .inr ⟨w.heap.size, 0, #[], rfl, Nat.le_refl _, World.alloc_heap_new _ _, Nat.le_refl _, Nat.zero_le _, by simp, by simp⟩⟩
  have hS2 : SlK (w.alloc (.cells #[] 30)) 2 (some ad) n vs := h.below ((Below.refl _ w).alloc (Nat.le_refl _) _)
  have hS2'h := Lib.hid hS2
  have hone'h := Lib.hid hone
  clear hS2 hone
  clear h
  go_enter Try.func11, Try.ntmps11
  go_wp2_with (at_builtin; refine wpList_append_slk _ rfl (.tmp 5) (.tmp 6) 23 rfl w.heap.size 30 i0 (.agg #[.int .u64 0, .int .u64 0]) 2 16 Try.underlying23 hi hz0 hz1 hz2 rfl (by decide) _ 0 [] rfl hown0 (some ad) n cap vs rfl hS2'h.out hone'h.out (by unfold maxLen; omega) (by omega) (by simp) ?_; intro v' w1 hown' hgrow hwh)
  rw [Nat.zero_add, List.nil_append] at hown'
  obtain ⟨sp', cap', rfl⟩ := row_slice' hown'
  have hown''h := Lib.hid hown'
  have hwh'h := Lib.hid hwh
  clear hown' hwh
  go_wp2
  go_ret
  exact ⟨sp', cap', rfl, ((Below.refl _ w).alloc (Nat.le_refl _) _).grown hgrow (by simp) (fun j hj => by cases hj; exact Nat.le_refl _), hown''h.out⟩
theorem clone2_any (sp : Option Addr) (n cap : Nat) (vs : List Value) (w : World) (hn : n ≤ 4096) (hone : ∀ v ∈ vs, v.oneCell' = true) (hc : sp = none → cap = 0) (h : SlK w 2 sp n vs) :
    Calls Try.prog 11 #[.slice sp n cap] w fun e w' => ∃ sp' cap', e = .returned (.slice sp' n cap') ∧ Below w.heap.size w w' ∧ w'.ownsRow w.heap.size 30 2 (.slice sp' n cap') n vs := by
  cases sp with
  | some ad => exact clone2_some ad n cap vs w hn hone h
  | none =>
    obtain rfl : cap = 0 := hc rfl
    have h0 : n = 0 := by
      rcases h.2.2 with h0 | ⟨b, off, he, _⟩
      · exact h0
      · cases he
    subst h0
    have hl : vs = [] := List.eq_nil_of_length_eq_zero (by have := h.1; simpa using this)
    refine (clone2_nil w).mono ?_
    rintro e w' ⟨rfl, rfl⟩
    exact ⟨none, 0, rfl, Below.refl _ _, by rw [hl]; exact World.ownsRow_nil _ _ _ _⟩
end Go.Proofs.Ytoklgjlmjkhmbaa

/-
  LookTakes: the head.
-/
set_option linter.unusedSimpArgs false
set_option linter.unusedVariables false
set_option maxRecDepth 100000
namespace Go.Proofs.Ytoklgjlmjkhmbaa
open Go.RowKit

theorem eq_sg (s : Sg) (w : World) : (Op.equalIn 10000 33 (.agg (sgA s)) (.agg (sgA s))).run Try.prog w = .ok true w := by
  rw [show (10000 : Nat) = 9999 + 1 from rfl, run_equalIn_struct]
  · simp [go_sem, sgA]
  · kernel_rfl
  · kernel_rfl
theorem eql_sg (s : Sg) (w : World) : (binOp .eql 33 (.agg (sgA s)) (.agg (sgA s))).run Try.prog w = .ok (.bool true) w := by
  rw [run_eql_struct, eq_sg]; rfl
theorem neq_sg (s : Sg) (w : World) : (binOp .neq 33 (.agg (sgA s)) (.agg (sgA s))).run Try.prog w = .ok (.bool false) w := by
  rw [run_neq_struct, eq_sg]; rfl
theorem takes_min (n m : Nat) (h : m = min n 8) : (if (8 : Int) < (n : Int) then (8 : Int) else (n : Int)) = (m : Int) := by
  split <;> omega
theorem own_lit (W : World) (t : TypeId) (n : Nat) (vs : Array Value) (hn : vs.size = n) (hm : n ≤ maxLen) : (W.alloc (.cells vs t)).ownsRow W.heap.size t 1 (.slice (some ⟨W.heap.size, 0, none⟩) n n) n vs.toList :=
  ⟨by simp [hn], .inr ⟨W.heap.size, n, vs, rfl, Nat.le_refl _, World.alloc_heap_new _ _, Nat.le_refl _, hm, by simp [hn], by rw [Nat.mul_one, ← hn]; exact List.take_of_length_le (by simp)⟩⟩
end Go.Proofs.Ytoklgjlmjkhmbaa

/-
  LookRuns: the head.
-/
set_option linter.unusedSimpArgs false
set_option linter.unusedVariables false
set_option maxRecDepth 100000
namespace Go.Proofs.Ytoklgjlmjkhmbaa
open Go.RowKit

theorem most_yes (sp : Option Addr) (n cap : Nat) (ws : List Nat) (slab hash : Nat) (w : World) (h64 : W64 ws) (hS : Sl w sp n (u64s ws)) (hn : 1 ≤ n ∧ n ≤ 8192) (ht : thereB n slab = true) (hh : hash < 2 ^ 64) :
    Calls Try.prog 14 #[.slice sp n cap, .int .i64 slab, .int .u64 hash] w fun e w' => e = .returned (.tuple #[.int .i64 (mostS ws slab hash), .int .i64 0]) ∧ Below w.heap.size w w' := by
  by_cases hev : nthN ws (16 + 40 * slab) % 2 = 1
  · have := most_odd sp n cap ws slab hash w h64 hS hn ht hev
    have e : mostS ws slab hash = 1 := by unfold mostS; rw [if_pos hev]
    rw [e]; exact this
  · exact most_even sp n cap ws slab hash w h64 hS hn ht hh hev
theorem rmost_yes (sp : Option Addr) (n cap : Nat) (ws : List Nat) (slab hash : Nat) (w : World) (h64 : W64 ws) (hS : Sl w sp n (u64s ws)) (hn : 1 ≤ n ∧ n ≤ 8192) (ht : thereB n slab = true) (hh : hash < 2 ^ 64) :
    Calls Try.prog 17 #[.slice sp n cap, .int .i64 slab, .int .u64 hash] w fun e w' => e = .returned (.int .i64 (mostS ws slab hash)) ∧ Below w.heap.size w w' := by
  by_cases hev : nthN ws (16 + 40 * slab) % 2 = 1
  · have := rmost_odd sp n cap ws slab hash w h64 hS hn ht hev
    have e : mostS ws slab hash = 1 := by unfold mostS; rw [if_pos hev]
    rw [e]; exact this
  · exact rmost_even sp n cap ws slab hash w h64 hS hn ht hh hev
set_option maxHeartbeats 2000000 in
theorem most_noZ (sp : Option Addr) (n cap : Nat) (z slab : Int) (hash : Nat) (w : World) (hz : z ≠ 0) (T : ∀ w, Calls Try.prog 36 #[.slice sp n cap, .int .i64 slab] w fun e w' => e = .returned (.int .i64 z) ∧ w' = w) :
    Calls Try.prog 14 #[.slice sp n cap, .int .i64 slab, .int .u64 hash] w fun e w' => e = .returned (.tuple #[.int .i64 0, .int .i64 z]) ∧ Below w.heap.size w w' := by
  have hb0 : Below w.heap.size w (((w.alloc (.cells #[.slice sp n cap] 22)).alloc (.cells #[.int .i64 slab] 3)).alloc (.cells #[.int .u64 hash] 29)) := (((Below.refl _ _).alloc (Nat.le_refl _) _).alloc (by simp) _).alloc (by simp; omega) _
  have hz' : (z == 0) = false := by simp [hz]
  have T'h := Lib.hid T
  have hb0'h := Lib.hid hb0
  clear T hb0
  refine (callsIn_wide (n := 0)).1 ?_
  refine callsIn_of_wp_marks Try.func14 rfl trivial ?_
  simp only [Try.ntmps14, List.size_toArray, List.length_cons, List.length_nil, Nat.reduceAdd, Nat.reduceSub, Array.replicate_succ, Array.replicate_zero, List.push_toArray, List.append_toArray, List.nil_append, List.cons_append]
  refine wpIn_wide.2 ?_
  go_wp2_with (first | (go_at_call 36; refine (T'h.out _).mono ?_; rintro e w1 ⟨rfl, rfl⟩))
  refine post_plain (.inl rfl) (results_tmp2 rfl _ _ _) ⟨rfl, hb0'h.out⟩
end Go.Proofs.Ytoklgjlmjkhmbaa

