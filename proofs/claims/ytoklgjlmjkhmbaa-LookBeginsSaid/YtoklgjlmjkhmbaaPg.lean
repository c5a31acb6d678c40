/-
  Several texts of mine in one: Ref18 Ref18B Ref18C Ref18D Ref18E Ref18F.
-/
import Derived.Test.YtoklgjlmjkhmbaaPf
import Derived.Test.YtoklgjlmjkhmbaaPb
import Derived.Test.YtoklgjlmjkhmbaaPc
import Derived.BigQuiet
import Derived.Deep.Cut
import Derived.StillTailTactics
import Derived.Deep.RegionHeld3
/-
  The document's answers of layer 18, each by its contract.
-/
set_option linter.unusedSimpArgs false
set_option linter.unusedVariables false
set_option maxRecDepth 100000
namespace Go.Proofs.Ytoklgjlmjkhmbaa
open Go.RowKit

theorem ref_slab (n : Int) (w : World) : Calls Try.prog 9 #[.int .i64 n] w fun e w' => e = .returned (.bool (decide (0 ≤ n ∧ n < 128))) ∧ w' = w := by
  by_cases h1 : 0 ≤ n
  · by_cases h2 : n < 128
    · have e : decide (0 ≤ n ∧ n < 128) = true := by simp; omega
      have d1 : decide ((0 : Int) ≤ n) = true := by simp; omega
      have d2 : decide (n < 128) = true := by simp; omega
      rw [e]
      go_enter Try.func9, Try.ntmps9
      go_wp2
      go_ret
      exact ⟨rfl, rfl⟩
    · have e : decide (0 ≤ n ∧ n < 128) = false := by simp; omega
      have d1 : decide ((0 : Int) ≤ n) = true := by simp; omega
      have d2 : decide (n < 128) = false := by simp; omega
      rw [e]
      go_enter Try.func9, Try.ntmps9
      go_wp2
      go_ret
      exact ⟨rfl, rfl⟩
  · have e : decide (0 ≤ n ∧ n < 128) = false := by simp; omega
    have d1 : decide ((0 : Int) ≤ n) = false := by simp; omega
    rw [e]
    go_enter Try.func9, Try.ntmps9
    go_wp2
    go_ret
    exact ⟨rfl, rfl⟩
theorem ref_cell (slab word : Nat) (w : World) (hs : slab < 128) (hw : word < 40) : Calls Try.prog 10 #[.int .i64 slab, .int .i64 word] w fun e w' => e = .returned (.int .i64 ((16 + 40 * slab + word : Nat) : Int)) ∧ w' = w := by
  have e : ((16 + 40 * slab + word : Nat) : Int) = 16 + 40 * (slab : Int) + (word : Int) := by omega
  rw [e]
  have b1 : (slab : Int) < 128 := by omega
  have b2 : (word : Int) < 40 := by omega
  clear e
  go_enter Try.func10, Try.ntmps10
  go_wp2
  go_ret
  exact ⟨rfl, rfl⟩
theorem ref_cells (sp : Option Addr) (n cap : Nat) (w : World) (hn : n ≤ 9223372036854775807) : Calls Try.prog 15 #[.slice sp n cap] w fun e w' => e = .returned (.bool (decide (1 ≤ n ∧ n ≤ 8192))) ∧ w' = w := by
  by_cases h1 : 1 ≤ n
  · by_cases h2 : n ≤ 8192
    · have e : decide (1 ≤ n ∧ n ≤ 8192) = true := by simp; omega
      have d1 : decide ((1 : Int) ≤ (n : Int)) = true := by simp; omega
      have d2 : decide ((n : Int) ≤ 8192) = true := by simp; omega
      rw [e]
      go_enter Try.func15, Try.ntmps15
      go_wp2
      go_ret
      exact ⟨rfl, rfl⟩
    · have e : decide (1 ≤ n ∧ n ≤ 8192) = false := by simp; omega
      have d1 : decide ((1 : Int) ≤ (n : Int)) = true := by simp; omega
      have d2 : decide ((n : Int) ≤ 8192) = false := by simp; omega
      rw [e]
      go_enter Try.func15, Try.ntmps15
      go_wp2
      go_ret
      exact ⟨rfl, rfl⟩
  · have e : decide (1 ≤ n ∧ n ≤ 8192) = false := by simp; omega
    have d1 : decide ((1 : Int) ≤ (n : Int)) = false := by simp; omega
    rw [e]
    go_enter Try.func15, Try.ntmps15
    go_wp2
    go_ret
    exact ⟨rfl, rfl⟩
theorem rightS_no {s : Sg} (h : ¬ SgRight s) : rightS s = false := by rw [Bool.eq_false_iff, ne_eq, rightS_iff]; exact h
set_option maxHeartbeats 2000000 in
theorem ref_right (s : Sg) (w : World) (h : SgOk s) : Calls Try.prog 19 #[.agg (sgA s)] w fun e w' => e = .returned (.bool (rightS s)) ∧ Below w.heap.size w w' := by
  have hb0 : Below w.heap.size w (w.alloc (.cells (sgA s) 33)) := (Below.refl _ _).alloc (Nat.le_refl _) _
  have hg := World.alloc_heap_new w (.cells (sgA s) 33)
  have c0 : (w.alloc (.cells (sgA s) 33)).cell? ⟨w.heap.size, 0, none⟩ = some (.int .i64 s.phase) := blk_cell hg rfl
  have c1 : (w.alloc (.cells (sgA s) 33)).cell? ⟨w.heap.size, 1, none⟩ = some (.int .i64 s.slab) := blk_cell hg rfl
  have c4 : (w.alloc (.cells (sgA s) 33)).cell? ⟨w.heap.size, 4, none⟩ = some (.int .u64 s.began) := blk_cell hg rfl
  have c5 : (w.alloc (.cells (sgA s) 33)).cell? ⟨w.heap.size, 5, none⟩ = some (.int .i64 s.grp) := blk_cell hg rfl
  have c7 : (w.alloc (.cells (sgA s) 33)).cell? ⟨w.heap.size, 7, none⟩ = some (.int .u8 s.left) := blk_cell hg rfl
  have S := fun w => ref_slab s.slab w
  have R := rightS_iff s
  have RN := @rightS_no s
  have hbn : (s.began : Int) % 2 = ((s.began % 2 : Nat) : Int) := by omega
  have hbt : (s.began : Int).tmod 2 = ((s.began % 2 : Nat) : Int) := by rw [Int.tmod_eq_emod_of_nonneg (by omega)]; omega
  have hb2 : s.began % 2 < 2 := Nat.mod_lt _ (by decide)
  have hB := h.began
  generalize hr : rightS s = r at *
  clear hg
  by_cases k0 : s.phase < 0
  · have d0 : decide (s.phase < 0) = true := by simp; omega
    have e : r = false := RN (by rintro ⟨h1, h2, h3, h4, h5⟩; omega)
    subst e
    clear hr R RN
    generalize s.phase = ph at *
    generalize s.slab = sl at *
    generalize s.began = be at *
    generalize s.grp = gr at *
    generalize s.left = le at *
    have h'h := Lib.hid h
    have S'h := Lib.hid S
    have hb0'h := Lib.hid hb0
    clear h S hb0
    go_enter Try.func19, Try.ntmps19
    go_wp2_with (go_at_call 9; refine (S'h.out _).mono ?_; rintro e w2 ⟨rfl, rfl⟩)
    go_ret
    exact ⟨rfl, hb0'h.out⟩
  · have d0 : decide (s.phase < 0) = false := by simp; omega
    by_cases k1 : 6 < s.phase
    · have d1 : decide (6 < s.phase) = true := by simp; omega
      have e : r = false := RN (by rintro ⟨h1, h2, h3, h4, h5⟩; omega)
      subst e
      clear hr R RN
      generalize s.phase = ph at *
      generalize s.slab = sl at *
      generalize s.began = be at *
      generalize s.grp = gr at *
      generalize s.left = le at *
      have h'h := Lib.hid h
      have S'h := Lib.hid S
      have hb0'h := Lib.hid hb0
      clear h S hb0
      go_enter Try.func19, Try.ntmps19
      go_wp2_with (go_at_call 9; refine (S'h.out _).mono ?_; rintro e w2 ⟨rfl, rfl⟩)
      go_ret
      exact ⟨rfl, hb0'h.out⟩
    · have d1 : decide (6 < s.phase) = false := by simp; omega
      by_cases k2 : ¬ (0 ≤ s.slab ∧ s.slab < 128)
      · have d2 : decide (0 ≤ s.slab ∧ s.slab < 128) = false := by simp; omega
        have e : r = false := RN (by rintro ⟨h1, h2, h3, h4, h5⟩; omega)
        subst e
        clear hr R RN
        generalize s.phase = ph at *
        generalize s.slab = sl at *
        generalize s.began = be at *
        generalize s.grp = gr at *
        generalize s.left = le at *
        have h'h := Lib.hid h
        have S'h := Lib.hid S
        have hb0'h := Lib.hid hb0
        clear h S hb0
        go_enter Try.func19, Try.ntmps19
        go_wp2_with (go_at_call 9; refine (S'h.out _).mono ?_; rintro e w2 ⟨rfl, rfl⟩)
        go_ret
        exact ⟨rfl, hb0'h.out⟩
      · have d2 : decide (0 ≤ s.slab ∧ s.slab < 128) = true := by simp; omega
        by_cases k3 : s.began % 2 = 1
        · have d3 : s.began % 2 = 1 := by omega
          have e : r = false := RN (by rintro ⟨h1, h2, h3, h4, h5⟩; omega)
          subst e
          clear hr R RN
          generalize s.phase = ph at *
          generalize s.slab = sl at *
          generalize s.began = be at *
          generalize s.grp = gr at *
          generalize s.left = le at *
          have h'h := Lib.hid h
          have S'h := Lib.hid S
          have hb0'h := Lib.hid hb0
          clear h S hb0
          go_enter Try.func19, Try.ntmps19
          go_wp2_with (go_at_call 9; refine (S'h.out _).mono ?_; rintro e w2 ⟨rfl, rfl⟩)
          go_ret
          exact ⟨rfl, hb0'h.out⟩
        · have d3 : s.began % 2 = 0 := by omega
          by_cases k4 : s.grp < 0
          · have d4 : decide (s.grp < 0) = true := by simp; omega
            have e : r = false := RN (by rintro ⟨h1, h2, h3, h4, h5⟩; omega)
            subst e
            clear hr R RN
            generalize s.phase = ph at *
            generalize s.slab = sl at *
            generalize s.began = be at *
            generalize s.grp = gr at *
            generalize s.left = le at *
            have h'h := Lib.hid h
            have S'h := Lib.hid S
            have hb0'h := Lib.hid hb0
            clear h S hb0
            go_enter Try.func19, Try.ntmps19
            go_wp2_with (go_at_call 9; refine (S'h.out _).mono ?_; rintro e w2 ⟨rfl, rfl⟩)
            go_ret
            exact ⟨rfl, hb0'h.out⟩
          · have d4 : decide (s.grp < 0) = false := by simp; omega
            by_cases k5 : 1 < s.grp
            · have d5 : decide (1 < s.grp) = true := by simp; omega
              have e : r = false := RN (by rintro ⟨h1, h2, h3, h4, h5⟩; omega)
              subst e
              clear hr R RN
              generalize s.phase = ph at *
              generalize s.slab = sl at *
              generalize s.began = be at *
              generalize s.grp = gr at *
              generalize s.left = le at *
              have h'h := Lib.hid h
              have S'h := Lib.hid S
              have hb0'h := Lib.hid hb0
              clear h S hb0
              go_enter Try.func19, Try.ntmps19
              go_wp2_with (go_at_call 9; refine (S'h.out _).mono ?_; rintro e w2 ⟨rfl, rfl⟩)
              go_ret
              exact ⟨rfl, hb0'h.out⟩
            · have d5 : decide (1 < s.grp) = false := by simp; omega
              by_cases k6 : s.left ≠ 0
              · have d6 : ((s.left : Int) != 0) = true := by simp; omega
                have e : r = true := R.2 ⟨by omega, by omega, by omega, by omega, by omega⟩
                subst e
                clear hr R RN
                generalize s.phase = ph at *
                generalize s.slab = sl at *
                generalize s.began = be at *
                generalize s.grp = gr at *
                generalize s.left = le at *
                have h'h := Lib.hid h
                have S'h := Lib.hid S
                have hb0'h := Lib.hid hb0
                clear h S hb0
                go_enter Try.func19, Try.ntmps19
                go_wp2_with (go_at_call 9; refine (S'h.out _).mono ?_; rintro e w2 ⟨rfl, rfl⟩)
                go_ret
                exact ⟨rfl, hb0'h.out⟩
              · have d6 : ((s.left : Int) != 0) = false := by simp; omega
                by_cases k7 : s.phase = 2
                · have d7 : (s.phase != 2) = false := by simp; omega
                  have e : r = false := RN (by rintro ⟨h1, h2, h3, h4, h5⟩; omega)
                  subst e
                  clear hr R RN
                  generalize s.phase = ph at *
                  generalize s.slab = sl at *
                  generalize s.began = be at *
                  generalize s.grp = gr at *
                  generalize s.left = le at *
                  have h'h := Lib.hid h
                  have S'h := Lib.hid S
                  have hb0'h := Lib.hid hb0
                  clear h S hb0
                  go_enter Try.func19, Try.ntmps19
                  go_wp2_with (go_at_call 9; refine (S'h.out _).mono ?_; rintro e w2 ⟨rfl, rfl⟩)
                  go_ret
                  exact ⟨rfl, hb0'h.out⟩
                · have d7 : (s.phase != 2) = true := by simp; omega
                  by_cases k8 : s.phase = 3
                  · have d8 : (s.phase != 3) = false := by simp; omega
                    have e : r = false := RN (by rintro ⟨h1, h2, h3, h4, h5⟩; omega)
                    subst e
                    clear hr R RN
                    generalize s.phase = ph at *
                    generalize s.slab = sl at *
                    generalize s.began = be at *
                    generalize s.grp = gr at *
                    generalize s.left = le at *
                    have h'h := Lib.hid h
                    have S'h := Lib.hid S
                    have hb0'h := Lib.hid hb0
                    clear h S hb0
                    go_enter Try.func19, Try.ntmps19
                    go_wp2_with (go_at_call 9; refine (S'h.out _).mono ?_; rintro e w2 ⟨rfl, rfl⟩)
                    go_ret
                    exact ⟨rfl, hb0'h.out⟩
                  · have d8 : (s.phase != 3) = true := by simp; omega
                    have e : r = true := R.2 ⟨by omega, by omega, by omega, by omega, by omega⟩
                    subst e
                    clear hr R RN
                    generalize s.phase = ph at *
                    generalize s.slab = sl at *
                    generalize s.began = be at *
                    generalize s.grp = gr at *
                    generalize s.left = le at *
                    have h'h := Lib.hid h
                    have S'h := Lib.hid S
                    have hb0'h := Lib.hid hb0
                    clear h S hb0
                    go_enter Try.func19, Try.ntmps19
                    go_wp2_with (go_at_call 9; refine (S'h.out _).mono ?_; rintro e w2 ⟨rfl, rfl⟩)
                    go_ret
                    exact ⟨rfl, hb0'h.out⟩
theorem ref_hasS (s : Sg) (w : World) : Calls Try.prog 20 #[.agg (sgA s)] w fun e w' => e = .returned (.bool (hasS s)) ∧ Below w.heap.size w w' := by
  have hb0 : Below w.heap.size w (w.alloc (.cells (sgA s) 33)) := (Below.refl _ _).alloc (Nat.le_refl _) _
  have hg := World.alloc_heap_new w (.cells (sgA s) 33)
  have c0 : (w.alloc (.cells (sgA s) 33)).cell? ⟨w.heap.size, 0, none⟩ = some (.int .i64 s.phase) := blk_cell hg rfl
  clear hg
  unfold hasS
  generalize s.phase = ph at *
  have hb0'h := Lib.hid hb0
  clear hb0
  go_enter Try.func20, Try.ntmps20
  go_wp2
  go_ret
  exact ⟨rfl, hb0'h.out⟩
end Go.Proofs.Ytoklgjlmjkhmbaa

/-
  The document's answers of layer 18: where it is.
-/
set_option linter.unusedSimpArgs false
set_option linter.unusedVariables false
set_option maxRecDepth 100000
namespace Go.Proofs.Ytoklgjlmjkhmbaa
open Go.RowKit

theorem ref_grp (s : Sg) (w : World) (h : SgOk s) (hr : SgRight s) : Calls Try.prog 47 #[.agg (sgA s)] w fun e w' => e = .returned (.int .i64 (grpS s)) ∧ Below w.heap.size w w' := by
  have hb0 : Below w.heap.size w (w.alloc (.cells (sgA s) 33)) := (Below.refl _ _).alloc (Nat.le_refl _) _
  have hg := World.alloc_heap_new w (.cells (sgA s) 33)
  have c3 : (w.alloc (.cells (sgA s) 33)).cell? ⟨w.heap.size, 3, none⟩ = some (.int .u64 s.hash) := blk_cell hg rfl
  have c5 : (w.alloc (.cells (sgA s) 33)).cell? ⟨w.heap.size, 5, none⟩ = some (.int .i64 s.grp) := blk_cell hg rfl
  have hgn : ((s.grp.toNat : Nat) : Int) = s.grp := by have := hr.grp; omega
  have A := fun w => ref_at 2 (s.hash / 128) s.grp.toNat w rfl (by have := h.hash; omega) (by have := hr.grp; omega)
  rw [hgn] at A
  have H := fun w => ref_h1 s.hash w h.hash
  have hgr : prB 2 (s.hash / 128) s.grp.toNat = grpS s := rfl
  rw [hgr] at A
  generalize grpS s = p at *
  generalize s.hash / 128 = h1 at *
  generalize s.hash = ha at *
  generalize s.grp = gr at *
  clear hgn hgr hg h hr
  have A'h := Lib.hid A
  have H'h := Lib.hid H
  have hb0'h := Lib.hid hb0
  clear A H hb0
  go_enter Try.func47, Try.ntmps47
  go_wp2
  go_quiet ((first | (go_at_call 42; exact Calls.quiet_of_same (H'h.out _)) | (go_at_call 68; exact Calls.quiet_of_same (A'h.out _))))
  go_wp2
  go_ret
  exact ⟨rfl, hb0'h.out.trans (below_drewN' _ _)⟩
theorem least_ok : ∀ m : Fin 256, m.val ≠ 0 → firstLane m.val < 8 ∧ hasM m.val (firstLane m.val) = true ∧ ∀ k : Fin 8, k.val < firstLane m.val → hasM m.val k.val = false := by decide +kernel
theorem ref_least (m : Nat) (w : World) (hm : m < 256) (h0 : m ≠ 0) : Calls Try.prog 48 #[.int .u8 m] w fun e w' => e = .returned (.int .i64 (firstLane m)) ∧ w' = w := by
  obtain ⟨hl, hy, hn⟩ := least_ok ⟨m, hm⟩ h0
  simp only at hl hy hn
  have H := fun k w hk => refHas_any m k w hm hk
  have hn' : ∀ k, k < firstLane m → hasM m k = false := fun k hk => hn ⟨k, by omega⟩ hk
  clear hn
  generalize firstLane m = L at *
  have H'h := Lib.hid H
  have hy'h := Lib.hid hy
  have hn''h := Lib.hid hn'
  clear H hy hn'
  go_enter Try.func48, Try.ntmps48
  go_wp2
  go_loopg [3] L (fun q i wr => ∃ k : Nat, k + q = L ∧ i = .int .i64 k ∧ wr = w)
  case atStart => exact ⟨0, by omega, rfl, rfl⟩
  case round =>
    obtain ⟨k, hk, rfl, rfl⟩ := hrel
    have HK := Lib.hid hk
    have hk8 : k < 8 := by omega
    have hk9 : (k : Int) < 8 := by omega
    have H1 := H'h.out k wr hk8
    clear hk
    by_cases hkL : k < L
    · rw [hn''h.out k hkL] at H1
      have H1'h := Lib.hid H1
      clear H1
      go_wp2_with (go_at_call 69; refine H1'h.out.mono ?_; rintro e w2 ⟨rfl, rfl⟩)
      go_roundg (gk - 1)
      case measure => have := HK.out; omega
      case rel => exact ⟨k + 1, by have := HK.out; omega, by go_num, rfl⟩
    · have hkk : k = L := by have := HK.out; omega
      subst hkk
      rw [hy'h.out] at H1
      have H1'h := Lib.hid H1
      clear H1
      go_wp2_with (go_at_call 69; refine H1'h.out.mono ?_; rintro e w2 ⟨rfl, rfl⟩)
      go_ret
      exact ⟨rfl, rfl⟩
def woK (m l : Nat) : Nat → Nat
  | 0 => 0
  | k + 1 => if k ≠ l ∧ hasM m k = true then woK m l k + 2 ^ k else woK m l k
theorem woK_lt (m l k : Nat) : woK m l k < 2 ^ k := by
  induction k with
  | zero => simp [woK]
  | succ k ih => unfold woK; split <;> (rw [Nat.pow_succ]; omega)
theorem woK_full : ∀ m : Fin 256, m.val ≠ 0 → woK m.val (firstLane m.val) 8 = dropM m.val := by decide +kernel
theorem ref_without (m l : Nat) (w : World) (hm : m < 256) (hl : l < 8) : Calls Try.prog 51 #[.int .u8 m, .int .i64 l] w fun e w' => e = .returned (.int .u8 (woK m l 8)) ∧ w' = w := by
  have H := fun k w hk => refHas_any m k w hm hk
  have H'h := Lib.hid H
  clear H
  go_enter Try.func51, Try.ntmps51
  go_wp2
  go_loopg [5, 7] 8 (fun q v i wr => ∃ k : Nat, k + q = 8 ∧ i = .int .i64 k ∧ v = .int .u8 (woK m l k) ∧ wr = w)
  case atStart => exact ⟨0, rfl, rfl, rfl, rfl⟩
  case round =>
    obtain ⟨k, hk, rfl, rfl, rfl⟩ := hrel
    have HK := Lib.hid hk
    have hkn : k ≤ 8 := by omega
    clear hk
    by_cases h8 : k < 8
    · have hdk : decide ((k : Int) < 8) = true := by simp; omega
      have H1 := H'h.out k wr h8
      have hlt := woK_lt m l k
      have hp : 2 ^ (k + 1) ≤ 2 ^ 8 := Nat.pow_le_pow_right (by decide) (by omega)
      have hsu : 2 ^ (k + 1) = 2 ^ k * 2 := Nat.pow_succ ..
      have W := refWith_any (woK m l k) k wr h8 (by omega)
      by_cases hkl : k = l
      · have d1 : ((k : Int) != (l : Int)) = false := by simp [hkl]
        have hs : woK m l (k + 1) = woK m l k := by rw [woK, if_neg (by simp [hkl])]
        clear hp hsu hlt
        have hs'h := Lib.hid hs
        have hkl'h := Lib.hid hkl
        have H1'h := Lib.hid H1
        have W'h := Lib.hid W
        clear hs hkl H1 W
        go_wp2
        go_roundg (gk - 1)
        case measure => have := HK.out; omega
        case rel => exact ⟨k + 1, by have := HK.out; omega, by go_num, by rw [hs'h.out], rfl⟩
      · have d1 : ((k : Int) != (l : Int)) = true := by simp; omega
        cases hf : hasM m k with
        | true =>
          have hs : woK m l (k + 1) = woK m l k + 2 ^ k := by rw [woK, if_pos ⟨hkl, hf⟩]
          rw [hf] at H1
          clear hp hsu hlt hf
          have hs'h := Lib.hid hs
          have hkl'h := Lib.hid hkl
          have H1'h := Lib.hid H1
          have W'h := Lib.hid W
          clear hs hkl H1 W
          go_wp2_with (first | (go_at_call 69; refine H1'h.out.mono ?_; rintro e w2 ⟨rfl, rfl⟩) | (go_at_call 71; refine W'h.out.mono ?_; rintro e w2 ⟨rfl, rfl⟩))
          go_roundg (gk - 1)
          case measure => have := HK.out; omega
          case rel => exact ⟨k + 1, by have := HK.out; omega, by go_num, by rw [hs'h.out]; simp, rfl⟩
        | false =>
          have hs : woK m l (k + 1) = woK m l k := by rw [woK, if_neg (by simp [hf])]
          rw [hf] at H1
          clear hp hsu hlt hf
          have hs'h := Lib.hid hs
          have hkl'h := Lib.hid hkl
          have H1'h := Lib.hid H1
          have W'h := Lib.hid W
          clear hs hkl H1 W
          go_wp2_with (first | (go_at_call 69; refine H1'h.out.mono ?_; rintro e w2 ⟨rfl, rfl⟩))
          go_roundg (gk - 1)
          case measure => have := HK.out; omega
          case rel => exact ⟨k + 1, by have := HK.out; omega, by go_num, by rw [hs'h.out], rfl⟩
    · obtain rfl : k = 8 := by omega
      go_wp2
      go_ret
      exact ⟨rfl, rfl⟩
end Go.Proofs.Ytoklgjlmjkhmbaa

/-
  The document's answers of layer 18: a step.
-/
set_option linter.unusedSimpArgs false
set_option linter.unusedVariables false
set_option maxRecDepth 100000
namespace Go.Proofs.Ytoklgjlmjkhmbaa
open Go.RowKit

theorem two_sgA (s : Sg) (w : World) : Below w.heap.size w ((w.alloc (.cells (sgA s) 33)).alloc (.cells #[.int .i64 0, .int .i64 0, .int .u64 0, .int .u64 0, .int .u64 0, .int .i64 0, .int .u64 0, .int .u8 0, .int .u64 0, .bool false] 33)) ∧ ((w.alloc (.cells (sgA s) 33)).alloc (.cells #[.int .i64 0, .int .i64 0, .int .u64 0, .int .u64 0, .int .u64 0, .int .i64 0, .int .u64 0, .int .u8 0, .int .u64 0, .bool false] 33)).heap[w.heap.size]? = some (.cells (sgA s) 33 (0, 0)) ∧ ((w.alloc (.cells (sgA s) 33)).alloc (.cells #[.int .i64 0, .int .i64 0, .int .u64 0, .int .u64 0, .int .u64 0, .int .i64 0, .int .u64 0, .int .u8 0, .int .u64 0, .bool false] 33)).heap[w.heap.size + 1]? = some (.cells #[.int .i64 0, .int .i64 0, .int .u64 0, .int .u64 0, .int .u64 0, .int .i64 0, .int .u64 0, .int .u8 0, .int .u64 0, .bool false] 33 (0, 0)) :=
  ⟨((Below.refl _ _).alloc (Nat.le_refl _) _).alloc (by simp) _, (Below.heap_alloc _ _ _ (by simp)).trans (World.alloc_heap_new _ _), heap_alloc2_new w _ _⟩
/-- Two blocks in a row: the sight, and the result. -/
structure TwoS (s : Sg) (b : Nat) (w W : World) : Prop where
  at0 : W.heap[b]? = some (.cells (sgA s) 33 (0, 0))
  at1 : W.heap[b + 1]? = some (.cells #[.int .i64 0, .int .i64 0, .int .u64 0, .int .u64 0, .int .u64 0, .int .i64 0, .int .u64 0, .int .u8 0, .int .u64 0, .bool false] 33 (0, 0))
  old : Below b w W
theorem TwoS.set {s s' : Sg} {b : Nat} {w W : World} (h : TwoS s b w W) (i : Nat) (v : Value) (he : (sgA s).setIfInBounds i v = sgA s') : TwoS s' b w (W.setCell ⟨b, i, none⟩ v) :=
  ⟨by rw [← he]; exact blk_set v h.at0, (Below.heap_setCell _ _ _ _ (show b + 1 ≠ b by omega)).trans h.at1, h.old.setCell (Nat.le_refl _) v⟩
theorem TwoS.next {s : Sg} {b : Nat} {w W W' : World} (h : TwoS s b w W) (hb : Below W.heap.size W W') : TwoS s b w W' :=
  ⟨heap_below hb h.at0 (lt_of_heap h.at0), heap_below hb h.at1 (lt_of_heap h.at1), h.old.trans (hb.mono (by have := lt_of_heap h.at0; omega))⟩
theorem TwoS.new (s : Sg) (w : World) : TwoS s w.heap.size w ((w.alloc (.cells (sgA s) 33)).alloc (.cells #[.int .i64 0, .int .i64 0, .int .u64 0, .int .u64 0, .int .u64 0, .int .i64 0, .int .u64 0, .int .u8 0, .int .u64 0, .bool false] 33)) := ⟨(two_sgA s w).2.1, (two_sgA s w).2.2, (two_sgA s w).1⟩

/-- All that a walk asks of the first block. -/
def SgF (s : Sg) (b : Nat) (W : World) : Prop := (SgC s b W) ∧ ∀ i, W.frozen? ⟨b, i, none⟩ = false
theorem TwoS.facts {s : Sg} {b : Nat} {w W : World} (h : TwoS s b w W) : SgF s b W := ⟨SgC.of h.at0, fun i => blk_free i h.at0⟩

set_option maxHeartbeats 4000000 in
theorem ref_on (s : Sg) (w : World) (hgr : 0 ≤ s.grp ∧ s.grp ≤ 1) (hct : s.ctrl < 2 ^ 64) : Calls Try.prog 50 #[.agg (sgA s)] w fun e w' => e = .returned (.agg (sgA (onS s))) ∧ Below w.heap.size w w' := by
  generalize hr : onS s = s1
  go_enter Try.func50, Try.ntmps50
  go_upto_region 2 with fail
  have hT0 := TwoS.new s w
  generalize hW : ((w.alloc (.cells (sgA s) 33)).alloc (.cells #[.int .i64 0, .int .i64 0, .int .u64 0, .int .u64 0, .int .u64 0, .int .i64 0, .int .u64 0, .int .u8 0, .int .u64 0, .bool false] 33)) = W at hT0 ⊢
  clear hW
  obtain ⟨⟨c0, c1, c2, c3, c4, c5, c6, c7, c8, c9⟩, f⟩ := hT0.facts
  have f0 := f 0
  have f5 := f 5
  have E := fun w => refEqual_any s.ctrl 128 w hct (by decide)
  by_cases hl : s.left = 0
  · have d1 : ((s.left : Int) != 0) = false := by simp [hl]
    by_cases he : equalM s.ctrl 128 = 0
    · have d2 : ((equalM s.ctrl 128 : Int) != 0) = false := by simp [he]
      generalize hm : equalM s.ctrl 128 = m at E d2
      by_cases h1 : s.grp = 1
      · have d3 : (s.grp == 1) = true := by simp [h1]
        have hs1 : ({ s with phase := 4 } : Sg) = s1 := by rw [← hr]; unfold onS; rw [if_neg (by simpa using hl), if_pos (.inr h1)]
        clear hr h1 he hl hm
        have hT0'h := Lib.hid hT0
        have hs1'h := Lib.hid hs1
        have E'h := Lib.hid E
        clear hT0 hs1 E
        go_upto_region 6 with (go_at_call 44; refine (E'h.out _).mono ?_; rintro e w2 ⟨rfl, hb2⟩; have hT2 := hT0'h.out.next hb2; have hf2 := hT2.facts; obtain ⟨⟨d0, _, _, _, _, d5, _, _, _, _⟩, hf2⟩ := hf2; have g0 := hf2 0; have g5 := hf2 5; clear hf2; have hT2'h := Lib.hid hT2; clear hT2)
        have hT := (hT2'h.out).set 0 (.int .i64 4) (set_phase s 4)
        rw [hs1'h.out] at hT
        clear d0 d5 g0 g5 c0 c1 c2 c3 c4 c5 c6 c7 c8 c9 f
        have hT'h := Lib.hid hT
        clear hT
        go_wp2_with (first | (refine wpList_load_row rfl _ _ rfl w.heap.size rfl 33 _ (0, 0) _ hT'h.out.at0 Try.underlying33 rfl infoSg ?_) | (refine wpList_store_row rfl _ _ _ rfl (w.heap.size + 1) (sgA s1) rfl rfl 33 _ hT'h.out.at1 infoSg rfl (sgA_one _) ?_))
        have hR := setRow_heap _ _ _ (sgA s1) _ _ hT'h.out.at1
        have hB3 := below_setRow' hT'h.out.old (show w.heap.size ≤ w.heap.size + 1 by omega) (sgA s1)
        obtain ⟨c0, c1, c2, c3, c4, c5, c6, c7, c8, c9⟩ := SgC.of (s := s1) hR
        change bodyPost _ _ _ _ _ (World.setRow (World.setCell w2 ⟨w.heap.size, 0, none⟩ (.int .i64 4)) (w.heap.size + 1) (sgA s1))
        generalize World.setRow (World.setCell w2 ⟨w.heap.size, 0, none⟩ (.int .i64 4)) (w.heap.size + 1) (sgA s1) = w9 at *
        refine bodyPost_ret (v := .agg (sgA s1)) ?_ rfl ⟨rfl, hB3⟩
        simp [results, Try.results50, go_sem, c0, c1, c2, c3, c4, c5, c6, c7, c8, c9, sgA]
      · have d3 : (s.grp == 1) = false := by simpa using h1
        have hb1 : s.grp ≤ 0 := by omega
        have hb0 := hgr.1
        have hs1 : ({ s with phase := 1, grp := s.grp + 1 } : Sg) = s1 := by rw [← hr]; unfold onS; rw [if_neg (by simpa using hl), if_neg (by rintro (h | h); exact h he; exact h1 h)]
        clear hr h1 he hl hm
        have hT0'h := Lib.hid hT0
        have hs1'h := Lib.hid hs1
        have E'h := Lib.hid E
        clear hT0 hs1 E
        go_upto_region 6 with (go_at_call 44; refine (E'h.out _).mono ?_; rintro e w2 ⟨rfl, hb2⟩; have hT2 := hT0'h.out.next hb2; have hf2 := hT2.facts; obtain ⟨⟨d0, _, _, _, _, d5, _, _, _, _⟩, hf2⟩ := hf2; have g0 := hf2 0; have g5 := hf2 5; clear hf2; have hT2'h := Lib.hid hT2; clear hT2)
        have hT := ((hT2'h.out).set 0 (.int .i64 1) (set_phase s 1)).set 5 (.int .i64 (s.grp + 1)) (set_grp { s with phase := 1 } (s.grp + 1))
        rw [hs1'h.out] at hT
        clear d0 d5 g0 g5 c0 c1 c2 c3 c4 c5 c6 c7 c8 c9 f
        have hT'h := Lib.hid hT
        clear hT
        go_wp2_with (first | (refine wpList_load_row rfl _ _ rfl w.heap.size rfl 33 _ (0, 0) _ hT'h.out.at0 Try.underlying33 rfl infoSg ?_) | (refine wpList_store_row rfl _ _ _ rfl (w.heap.size + 1) (sgA s1) rfl rfl 33 _ hT'h.out.at1 infoSg rfl (sgA_one _) ?_))
        have hR := setRow_heap _ _ _ (sgA s1) _ _ hT'h.out.at1
        have hB3 := below_setRow' hT'h.out.old (show w.heap.size ≤ w.heap.size + 1 by omega) (sgA s1)
        obtain ⟨c0, c1, c2, c3, c4, c5, c6, c7, c8, c9⟩ := SgC.of (s := s1) hR
        change bodyPost _ _ _ _ _ (World.setRow (World.setCell (World.setCell w2 ⟨w.heap.size, 0, none⟩ (.int .i64 1)) ⟨w.heap.size, 5, none⟩ (.int .i64 (s.grp + 1))) (w.heap.size + 1) (sgA s1))
        generalize World.setRow (World.setCell (World.setCell w2 ⟨w.heap.size, 0, none⟩ (.int .i64 1)) ⟨w.heap.size, 5, none⟩ (.int .i64 (s.grp + 1))) (w.heap.size + 1) (sgA s1) = w9 at *
        refine bodyPost_ret (v := .agg (sgA s1)) ?_ rfl ⟨rfl, hB3⟩
        simp [results, Try.results50, go_sem, c0, c1, c2, c3, c4, c5, c6, c7, c8, c9, sgA]
    · have d2 : ((equalM s.ctrl 128 : Int) != 0) = true := by simp; omega
      generalize hm : equalM s.ctrl 128 = m at E d2
      have hs1 : ({ s with phase := 4 } : Sg) = s1 := by rw [← hr]; unfold onS; rw [if_neg (by simpa using hl), if_pos (.inl he)]
      clear hr he hl hm
      have hT0'h := Lib.hid hT0
      have hs1'h := Lib.hid hs1
      have E'h := Lib.hid E
      clear hT0 hs1 E
      go_upto_region 6 with (go_at_call 44; refine (E'h.out _).mono ?_; rintro e w2 ⟨rfl, hb2⟩; have hT2 := hT0'h.out.next hb2; have hf2 := hT2.facts; obtain ⟨⟨d0, _, _, _, _, d5, _, _, _, _⟩, hf2⟩ := hf2; have g0 := hf2 0; have g5 := hf2 5; clear hf2; have hT2'h := Lib.hid hT2; clear hT2)
      have hT := (hT2'h.out).set 0 (.int .i64 4) (set_phase s 4)
      rw [hs1'h.out] at hT
      clear d0 d5 g0 g5 c0 c1 c2 c3 c4 c5 c6 c7 c8 c9 f
      have hT'h := Lib.hid hT
      clear hT
      go_wp2_with (first | (refine wpList_load_row rfl _ _ rfl w.heap.size rfl 33 _ (0, 0) _ hT'h.out.at0 Try.underlying33 rfl infoSg ?_) | (refine wpList_store_row rfl _ _ _ rfl (w.heap.size + 1) (sgA s1) rfl rfl 33 _ hT'h.out.at1 infoSg rfl (sgA_one _) ?_))
      have hR := setRow_heap _ _ _ (sgA s1) _ _ hT'h.out.at1
      have hB3 := below_setRow' hT'h.out.old (show w.heap.size ≤ w.heap.size + 1 by omega) (sgA s1)
      obtain ⟨c0, c1, c2, c3, c4, c5, c6, c7, c8, c9⟩ := SgC.of (s := s1) hR
      change bodyPost _ _ _ _ _ (World.setRow (World.setCell w2 ⟨w.heap.size, 0, none⟩ (.int .i64 4)) (w.heap.size + 1) (sgA s1))
      generalize World.setRow (World.setCell w2 ⟨w.heap.size, 0, none⟩ (.int .i64 4)) (w.heap.size + 1) (sgA s1) = w9 at *
      refine bodyPost_ret (v := .agg (sgA s1)) ?_ rfl ⟨rfl, hB3⟩
      simp [results, Try.results50, go_sem, c0, c1, c2, c3, c4, c5, c6, c7, c8, c9, sgA]
  · have d1 : ((s.left : Int) != 0) = true := by simp; omega
    have hs1 : ({ s with phase := 2 } : Sg) = s1 := by rw [← hr]; unfold onS; rw [if_pos hl]
    clear hr hl
    have hT0'h := Lib.hid hT0
    have hs1'h := Lib.hid hs1
    have E'h := Lib.hid E
    clear hT0 hs1 E
    go_upto_region 6 with fail
    have hT := (hT0'h.out).set 0 (.int .i64 2) (set_phase s 2)
    rw [hs1'h.out] at hT
    clear c0 c1 c2 c3 c4 c5 c6 c7 c8 c9 f
    have hT'h := Lib.hid hT
    clear hT
    go_wp2_with (first | (refine wpList_load_row rfl _ _ rfl w.heap.size rfl 33 _ (0, 0) _ hT'h.out.at0 Try.underlying33 rfl infoSg ?_) | (refine wpList_store_row rfl _ _ _ rfl (w.heap.size + 1) (sgA s1) rfl rfl 33 _ hT'h.out.at1 infoSg rfl (sgA_one _) ?_))
    have hR := setRow_heap _ _ _ (sgA s1) _ _ hT'h.out.at1
    have hB3 := below_setRow' hT'h.out.old (show w.heap.size ≤ w.heap.size + 1 by omega) (sgA s1)
    obtain ⟨c0, c1, c2, c3, c4, c5, c6, c7, c8, c9⟩ := SgC.of (s := s1) hR
    change bodyPost _ _ _ _ _ (World.setRow (World.setCell W ⟨w.heap.size, 0, none⟩ (.int .i64 2)) (w.heap.size + 1) (sgA s1))
    generalize World.setRow (World.setCell W ⟨w.heap.size, 0, none⟩ (.int .i64 2)) (w.heap.size + 1) (sgA s1) = w9 at *
    refine bodyPost_ret (v := .agg (sgA s1)) ?_ rfl ⟨rfl, hB3⟩
    simp [results, Try.results50, go_sem, c0, c1, c2, c3, c4, c5, c6, c7, c8, c9, sgA]

end Go.Proofs.Ytoklgjlmjkhmbaa

/-
  The document's answers of layer 18: a load.
-/
set_option linter.unusedSimpArgs false
set_option linter.unusedVariables false
set_option maxRecDepth 100000
namespace Go.Proofs.Ytoklgjlmjkhmbaa
open Go.RowKit

set_option maxHeartbeats 4000000 in
theorem rtake0 (s : Sg) (x : Nat) (w : World) (h : SgOk s) (hx : x < 2 ^ 64) (hp : s.phase = 0) (ho : x % 2 = 1) : Calls Try.prog 25 #[.agg (sgA s), .int .u64 x] w fun e w' => e = .returned (.agg (sgA (takeS s x))) ∧ Below w.heap.size w w' := by
  have e0 : (s.phase == 0) = true := by simp [hp]
  have hox : (((x : Int) % 2) == 1) = true := by simp; omega
  have hot : ((x : Int).tmod 2 == 1) = true := by rw [Int.tmod_eq_emod_of_nonneg (by omega)]; exact hox
  generalize hs1 : takeS s x = s1
  go_enter Try.func25, Try.ntmps25
  go_upto_region 1 with fail
  have hT0 := TwoS.new s w
  generalize hW : ((w.alloc (.cells (sgA s) 33)).alloc (.cells #[.int .i64 0, .int .i64 0, .int .u64 0, .int .u64 0, .int .u64 0, .int .i64 0, .int .u64 0, .int .u8 0, .int .u64 0, .bool false] 33)) = W at hT0 ⊢
  clear hW
  obtain ⟨⟨c0, c1, c2, c3, c4, c5, c6, c7, c8, c9⟩, f⟩ := hT0.facts
  have f0 := f 0
  have f4 := f 4
  have f5 := f 5
  have f6 := f 6
  have f7 := f 7
  have f8 := f 8
  have f9 := f 9
  rw [takeS, if_pos hp, if_pos ho] at hs1
  have hT0'h := Lib.hid hT0
  have hs1'h := Lib.hid hs1
  have h'h := Lib.hid h
  have hx'h := Lib.hid hx
  clear hT0 hs1 h hx
  go_upto_region 5 with fail
  have hT := (hT0'h.out).set 0 (.int .i64 6) (set_phase s 6)
  rw [hs1'h.out] at hT
  clear c0 c1 c2 c3 c4 c5 c6 c7 c8 c9 f f0 f4 f5 f6 f7 f8 f9
  have hT'h := Lib.hid hT
  clear hT
  go_wp2_with (first | (refine wpList_load_row rfl _ _ rfl w.heap.size rfl 33 _ (0, 0) _ hT'h.out.at0 Try.underlying33 rfl infoSg ?_) | (refine wpList_store_row rfl _ _ _ rfl (w.heap.size + 1) (sgA s1) rfl rfl 33 _ hT'h.out.at1 infoSg rfl (sgA_one _) ?_))
  have hR := setRow_heap _ _ _ (sgA s1) _ _ hT'h.out.at1
  have hB3 := below_setRow' hT'h.out.old (show w.heap.size ≤ w.heap.size + 1 by omega) (sgA s1)
  obtain ⟨c0, c1, c2, c3, c4, c5, c6, c7, c8, c9⟩ := SgC.of (s := s1) hR
  change bodyPost _ _ _ _ _ (World.setRow (World.setCell W ⟨w.heap.size, 0, none⟩ (.int .i64 6)) (w.heap.size + 1) (sgA s1))
  generalize World.setRow (World.setCell W ⟨w.heap.size, 0, none⟩ (.int .i64 6)) (w.heap.size + 1) (sgA s1) = w9 at *
  refine bodyPost_ret (v := .agg (sgA s1)) ?_ rfl ⟨rfl, hB3⟩
  simp [results, Try.results25, go_sem, c0, c1, c2, c3, c4, c5, c6, c7, c8, c9, sgA]

set_option maxHeartbeats 4000000 in
theorem rtake0b (s : Sg) (x : Nat) (w : World) (h : SgOk s) (hx : x < 2 ^ 64) (hp : s.phase = 0) (ho : ¬ x % 2 = 1) : Calls Try.prog 25 #[.agg (sgA s), .int .u64 x] w fun e w' => e = .returned (.agg (sgA (takeS s x))) ∧ Below w.heap.size w w' := by
  have e0 : (s.phase == 0) = true := by simp [hp]
  have hox : (((x : Int) % 2) == 1) = false := by simp; omega
  have hot : ((x : Int).tmod 2 == 1) = false := by rw [Int.tmod_eq_emod_of_nonneg (by omega)]; exact hox
  generalize hs1 : takeS s x = s1
  go_enter Try.func25, Try.ntmps25
  go_upto_region 1 with fail
  have hT0 := TwoS.new s w
  generalize hW : ((w.alloc (.cells (sgA s) 33)).alloc (.cells #[.int .i64 0, .int .i64 0, .int .u64 0, .int .u64 0, .int .u64 0, .int .i64 0, .int .u64 0, .int .u8 0, .int .u64 0, .bool false] 33)) = W at hT0 ⊢
  clear hW
  obtain ⟨⟨c0, c1, c2, c3, c4, c5, c6, c7, c8, c9⟩, f⟩ := hT0.facts
  have f0 := f 0
  have f4 := f 4
  have f5 := f 5
  have f6 := f 6
  have f7 := f 7
  have f8 := f 8
  have f9 := f 9
  rw [takeS, if_pos hp, if_neg ho] at hs1
  have hT0'h := Lib.hid hT0
  have hs1'h := Lib.hid hs1
  have h'h := Lib.hid h
  have hx'h := Lib.hid hx
  clear hT0 hs1 h hx
  go_upto_region 22 with fail
  have hT := (((hT0'h.out).set 0 (.int .i64 1) (set_phase s 1)).set 4 (.int .u64 x) (set_began { s with phase := 1 } x)).set 5 (.int .i64 0) (set_grp { s with phase := 1, began := x } 0)
  rw [hs1'h.out] at hT
  clear c0 c1 c2 c3 c4 c5 c6 c7 c8 c9 f f0 f4 f5 f6 f7 f8 f9
  have hT'h := Lib.hid hT
  clear hT
  go_wp2_with (first | (refine wpList_load_row rfl _ _ rfl w.heap.size rfl 33 _ (0, 0) _ hT'h.out.at0 Try.underlying33 rfl infoSg ?_) | (refine wpList_store_row rfl _ _ _ rfl (w.heap.size + 1) (sgA s1) rfl rfl 33 _ hT'h.out.at1 infoSg rfl (sgA_one _) ?_))
  have hR := setRow_heap _ _ _ (sgA s1) _ _ hT'h.out.at1
  have hB3 := below_setRow' hT'h.out.old (show w.heap.size ≤ w.heap.size + 1 by omega) (sgA s1)
  obtain ⟨c0, c1, c2, c3, c4, c5, c6, c7, c8, c9⟩ := SgC.of (s := s1) hR
  change bodyPost _ _ _ _ _ (World.setRow (World.setCell (World.setCell (World.setCell W ⟨w.heap.size, 0, none⟩ (.int .i64 1)) ⟨w.heap.size, 4, none⟩ (.int .u64 x)) ⟨w.heap.size, 5, none⟩ (.int .i64 0)) (w.heap.size + 1) (sgA s1))
  generalize World.setRow (World.setCell (World.setCell (World.setCell W ⟨w.heap.size, 0, none⟩ (.int .i64 1)) ⟨w.heap.size, 4, none⟩ (.int .u64 x)) ⟨w.heap.size, 5, none⟩ (.int .i64 0)) (w.heap.size + 1) (sgA s1) = w9 at *
  refine bodyPost_ret (v := .agg (sgA s1)) ?_ rfl ⟨rfl, hB3⟩
  simp [results, Try.results25, go_sem, c0, c1, c2, c3, c4, c5, c6, c7, c8, c9, sgA]

set_option maxHeartbeats 4000000 in
theorem rtake2 (s : Sg) (x : Nat) (w : World) (h : SgOk s) (hx : x < 2 ^ 64) (hp : s.phase = 2) (ho : x = s.key) : Calls Try.prog 25 #[.agg (sgA s), .int .u64 x] w fun e w' => e = .returned (.agg (sgA (takeS s x))) ∧ Below w.heap.size w w' := by
  have e0 : (s.phase == 0) = false := by simp [hp]
  have e1 : (s.phase == 1) = false := by simp [hp]
  have e2 : (s.phase == 2) = true := by simp [hp]
  have hox : ((x : Int) == (s.key : Int)) = true := by simp; omega
  generalize hs1 : takeS s x = s1
  go_enter Try.func25, Try.ntmps25
  go_upto_region 1 with fail
  have hT0 := TwoS.new s w
  generalize hW : ((w.alloc (.cells (sgA s) 33)).alloc (.cells #[.int .i64 0, .int .i64 0, .int .u64 0, .int .u64 0, .int .u64 0, .int .i64 0, .int .u64 0, .int .u8 0, .int .u64 0, .bool false] 33)) = W at hT0 ⊢
  clear hW
  obtain ⟨⟨c0, c1, c2, c3, c4, c5, c6, c7, c8, c9⟩, f⟩ := hT0.facts
  have f0 := f 0
  have f4 := f 4
  have f5 := f 5
  have f6 := f 6
  have f7 := f 7
  have f8 := f 8
  have f9 := f 9
  rw [takeS, if_neg (by omega), if_neg (by omega), if_pos hp, if_pos ho] at hs1
  have hT0'h := Lib.hid hT0
  have hs1'h := Lib.hid hs1
  have h'h := Lib.hid h
  have hx'h := Lib.hid hx
  clear hT0 hs1 h hx
  go_upto_region 13 with fail
  have hT := (hT0'h.out).set 0 (.int .i64 3) (set_phase s 3)
  rw [hs1'h.out] at hT
  clear c0 c1 c2 c3 c4 c5 c6 c7 c8 c9 f f0 f4 f5 f6 f7 f8 f9
  have hT'h := Lib.hid hT
  clear hT
  go_wp2_with (first | (refine wpList_load_row rfl _ _ rfl w.heap.size rfl 33 _ (0, 0) _ hT'h.out.at0 Try.underlying33 rfl infoSg ?_) | (refine wpList_store_row rfl _ _ _ rfl (w.heap.size + 1) (sgA s1) rfl rfl 33 _ hT'h.out.at1 infoSg rfl (sgA_one _) ?_))
  have hR := setRow_heap _ _ _ (sgA s1) _ _ hT'h.out.at1
  have hB3 := below_setRow' hT'h.out.old (show w.heap.size ≤ w.heap.size + 1 by omega) (sgA s1)
  obtain ⟨c0, c1, c2, c3, c4, c5, c6, c7, c8, c9⟩ := SgC.of (s := s1) hR
  change bodyPost _ _ _ _ _ (World.setRow (World.setCell W ⟨w.heap.size, 0, none⟩ (.int .i64 3)) (w.heap.size + 1) (sgA s1))
  generalize World.setRow (World.setCell W ⟨w.heap.size, 0, none⟩ (.int .i64 3)) (w.heap.size + 1) (sgA s1) = w9 at *
  refine bodyPost_ret (v := .agg (sgA s1)) ?_ rfl ⟨rfl, hB3⟩
  simp [results, Try.results25, go_sem, c0, c1, c2, c3, c4, c5, c6, c7, c8, c9, sgA]

set_option maxHeartbeats 4000000 in
theorem rtake3 (s : Sg) (x : Nat) (w : World) (h : SgOk s) (hx : x < 2 ^ 64) (hp : s.phase = 3) : Calls Try.prog 25 #[.agg (sgA s), .int .u64 x] w fun e w' => e = .returned (.agg (sgA (takeS s x))) ∧ Below w.heap.size w w' := by
  have e0 : (s.phase == 0) = false := by simp [hp]
  have e1 : (s.phase == 1) = false := by simp [hp]
  have e2 : (s.phase == 2) = false := by simp [hp]
  have e3 : (s.phase == 3) = true := by simp [hp]
  generalize hs1 : takeS s x = s1
  go_enter Try.func25, Try.ntmps25
  go_upto_region 1 with fail
  have hT0 := TwoS.new s w
  generalize hW : ((w.alloc (.cells (sgA s) 33)).alloc (.cells #[.int .i64 0, .int .i64 0, .int .u64 0, .int .u64 0, .int .u64 0, .int .i64 0, .int .u64 0, .int .u8 0, .int .u64 0, .bool false] 33)) = W at hT0 ⊢
  clear hW
  obtain ⟨⟨c0, c1, c2, c3, c4, c5, c6, c7, c8, c9⟩, f⟩ := hT0.facts
  have f0 := f 0
  have f4 := f 4
  have f5 := f 5
  have f6 := f 6
  have f7 := f 7
  have f8 := f 8
  have f9 := f 9
  rw [takeS, if_neg (by omega), if_neg (by omega), if_neg (by omega), if_pos hp] at hs1
  have hT0'h := Lib.hid hT0
  have hs1'h := Lib.hid hs1
  have h'h := Lib.hid h
  have hx'h := Lib.hid hx
  clear hT0 hs1 h hx
  go_upto_region 22 with fail
  have hT := (((hT0'h.out).set 8 (.int .u64 x) (set_value s x)).set 9 (.bool true) (set_found { s with value := x } true)).set 0 (.int .i64 4) (set_phase { s with value := x, found := true } 4)
  rw [hs1'h.out] at hT
  clear c0 c1 c2 c3 c4 c5 c6 c7 c8 c9 f f0 f4 f5 f6 f7 f8 f9
  have hT'h := Lib.hid hT
  clear hT
  go_wp2_with (first | (refine wpList_load_row rfl _ _ rfl w.heap.size rfl 33 _ (0, 0) _ hT'h.out.at0 Try.underlying33 rfl infoSg ?_) | (refine wpList_store_row rfl _ _ _ rfl (w.heap.size + 1) (sgA s1) rfl rfl 33 _ hT'h.out.at1 infoSg rfl (sgA_one _) ?_))
  have hR := setRow_heap _ _ _ (sgA s1) _ _ hT'h.out.at1
  have hB3 := below_setRow' hT'h.out.old (show w.heap.size ≤ w.heap.size + 1 by omega) (sgA s1)
  obtain ⟨c0, c1, c2, c3, c4, c5, c6, c7, c8, c9⟩ := SgC.of (s := s1) hR
  change bodyPost _ _ _ _ _ (World.setRow (World.setCell (World.setCell (World.setCell W ⟨w.heap.size, 8, none⟩ (.int .u64 x)) ⟨w.heap.size, 9, none⟩ (.bool true)) ⟨w.heap.size, 0, none⟩ (.int .i64 4)) (w.heap.size + 1) (sgA s1))
  generalize World.setRow (World.setCell (World.setCell (World.setCell W ⟨w.heap.size, 8, none⟩ (.int .u64 x)) ⟨w.heap.size, 9, none⟩ (.bool true)) ⟨w.heap.size, 0, none⟩ (.int .i64 4)) (w.heap.size + 1) (sgA s1) = w9 at *
  refine bodyPost_ret (v := .agg (sgA s1)) ?_ rfl ⟨rfl, hB3⟩
  simp [results, Try.results25, go_sem, c0, c1, c2, c3, c4, c5, c6, c7, c8, c9, sgA]

set_option maxHeartbeats 4000000 in
theorem rtake4 (s : Sg) (x : Nat) (w : World) (h : SgOk s) (hx : x < 2 ^ 64) (hp : s.phase = 4) (ho : x = s.began) : Calls Try.prog 25 #[.agg (sgA s), .int .u64 x] w fun e w' => e = .returned (.agg (sgA (takeS s x))) ∧ Below w.heap.size w w' := by
  have e0 : (s.phase == 0) = false := by simp [hp]
  have e1 : (s.phase == 1) = false := by simp [hp]
  have e2 : (s.phase == 2) = false := by simp [hp]
  have e3 : (s.phase == 3) = false := by simp [hp]
  have e4 : (s.phase == 4) = true := by simp [hp]
  have hox : ((x : Int) == (s.began : Int)) = true := by simp; omega
  generalize hs1 : takeS s x = s1
  go_enter Try.func25, Try.ntmps25
  go_upto_region 1 with fail
  have hT0 := TwoS.new s w
  generalize hW : ((w.alloc (.cells (sgA s) 33)).alloc (.cells #[.int .i64 0, .int .i64 0, .int .u64 0, .int .u64 0, .int .u64 0, .int .i64 0, .int .u64 0, .int .u8 0, .int .u64 0, .bool false] 33)) = W at hT0 ⊢
  clear hW
  obtain ⟨⟨c0, c1, c2, c3, c4, c5, c6, c7, c8, c9⟩, f⟩ := hT0.facts
  have f0 := f 0
  have f4 := f 4
  have f5 := f 5
  have f6 := f 6
  have f7 := f 7
  have f8 := f 8
  have f9 := f 9
  rw [takeS, if_neg (by omega), if_neg (by omega), if_neg (by omega), if_neg (by omega), if_pos ho] at hs1
  have hT0'h := Lib.hid hT0
  have hs1'h := Lib.hid hs1
  have h'h := Lib.hid h
  have hx'h := Lib.hid hx
  clear hT0 hs1 h hx
  go_upto_region 22 with fail
  have hT := ((hT0'h.out).set 0 (.int .i64 6) (set_phase s 6)).set 0 (.int .i64 5) (set_phase { s with phase := 6 } 5)
  rw [hs1'h.out] at hT
  clear c0 c1 c2 c3 c4 c5 c6 c7 c8 c9 f f0 f4 f5 f6 f7 f8 f9
  have hT'h := Lib.hid hT
  clear hT
  go_wp2_with (first | (refine wpList_load_row rfl _ _ rfl w.heap.size rfl 33 _ (0, 0) _ hT'h.out.at0 Try.underlying33 rfl infoSg ?_) | (refine wpList_store_row rfl _ _ _ rfl (w.heap.size + 1) (sgA s1) rfl rfl 33 _ hT'h.out.at1 infoSg rfl (sgA_one _) ?_))
  have hR := setRow_heap _ _ _ (sgA s1) _ _ hT'h.out.at1
  have hB3 := below_setRow' hT'h.out.old (show w.heap.size ≤ w.heap.size + 1 by omega) (sgA s1)
  obtain ⟨c0, c1, c2, c3, c4, c5, c6, c7, c8, c9⟩ := SgC.of (s := s1) hR
  change bodyPost _ _ _ _ _ (World.setRow (World.setCell (World.setCell W ⟨w.heap.size, 0, none⟩ (.int .i64 6)) ⟨w.heap.size, 0, none⟩ (.int .i64 5)) (w.heap.size + 1) (sgA s1))
  generalize World.setRow (World.setCell (World.setCell W ⟨w.heap.size, 0, none⟩ (.int .i64 6)) ⟨w.heap.size, 0, none⟩ (.int .i64 5)) (w.heap.size + 1) (sgA s1) = w9 at *
  refine bodyPost_ret (v := .agg (sgA s1)) ?_ rfl ⟨rfl, hB3⟩
  simp [results, Try.results25, go_sem, c0, c1, c2, c3, c4, c5, c6, c7, c8, c9, sgA]

set_option maxHeartbeats 4000000 in
theorem rtake4b (s : Sg) (x : Nat) (w : World) (h : SgOk s) (hx : x < 2 ^ 64) (hp : s.phase = 4) (ho : ¬ x = s.began) : Calls Try.prog 25 #[.agg (sgA s), .int .u64 x] w fun e w' => e = .returned (.agg (sgA (takeS s x))) ∧ Below w.heap.size w w' := by
  have e0 : (s.phase == 0) = false := by simp [hp]
  have e1 : (s.phase == 1) = false := by simp [hp]
  have e2 : (s.phase == 2) = false := by simp [hp]
  have e3 : (s.phase == 3) = false := by simp [hp]
  have e4 : (s.phase == 4) = true := by simp [hp]
  have hox : ((x : Int) == (s.began : Int)) = false := by simp; omega
  generalize hs1 : takeS s x = s1
  go_enter Try.func25, Try.ntmps25
  go_upto_region 1 with fail
  have hT0 := TwoS.new s w
  generalize hW : ((w.alloc (.cells (sgA s) 33)).alloc (.cells #[.int .i64 0, .int .i64 0, .int .u64 0, .int .u64 0, .int .u64 0, .int .i64 0, .int .u64 0, .int .u8 0, .int .u64 0, .bool false] 33)) = W at hT0 ⊢
  clear hW
  obtain ⟨⟨c0, c1, c2, c3, c4, c5, c6, c7, c8, c9⟩, f⟩ := hT0.facts
  have f0 := f 0
  have f4 := f 4
  have f5 := f 5
  have f6 := f 6
  have f7 := f 7
  have f8 := f 8
  have f9 := f 9
  rw [takeS, if_neg (by omega), if_neg (by omega), if_neg (by omega), if_neg (by omega), if_neg ho] at hs1
  have hT0'h := Lib.hid hT0
  have hs1'h := Lib.hid hs1
  have h'h := Lib.hid h
  have hx'h := Lib.hid hx
  clear hT0 hs1 h hx
  go_upto_region 22 with fail
  have hT := (hT0'h.out).set 0 (.int .i64 6) (set_phase s 6)
  rw [hs1'h.out] at hT
  clear c0 c1 c2 c3 c4 c5 c6 c7 c8 c9 f f0 f4 f5 f6 f7 f8 f9
  have hT'h := Lib.hid hT
  clear hT
  go_wp2_with (first | (refine wpList_load_row rfl _ _ rfl w.heap.size rfl 33 _ (0, 0) _ hT'h.out.at0 Try.underlying33 rfl infoSg ?_) | (refine wpList_store_row rfl _ _ _ rfl (w.heap.size + 1) (sgA s1) rfl rfl 33 _ hT'h.out.at1 infoSg rfl (sgA_one _) ?_))
  have hR := setRow_heap _ _ _ (sgA s1) _ _ hT'h.out.at1
  have hB3 := below_setRow' hT'h.out.old (show w.heap.size ≤ w.heap.size + 1 by omega) (sgA s1)
  obtain ⟨c0, c1, c2, c3, c4, c5, c6, c7, c8, c9⟩ := SgC.of (s := s1) hR
  change bodyPost _ _ _ _ _ (World.setRow (World.setCell W ⟨w.heap.size, 0, none⟩ (.int .i64 6)) (w.heap.size + 1) (sgA s1))
  generalize World.setRow (World.setCell W ⟨w.heap.size, 0, none⟩ (.int .i64 6)) (w.heap.size + 1) (sgA s1) = w9 at *
  refine bodyPost_ret (v := .agg (sgA s1)) ?_ rfl ⟨rfl, hB3⟩
  simp [results, Try.results25, go_sem, c0, c1, c2, c3, c4, c5, c6, c7, c8, c9, sgA]

end Go.Proofs.Ytoklgjlmjkhmbaa

/-
  The document's answers of layer 18: a load, with calls.
-/
set_option linter.unusedSimpArgs false
set_option linter.unusedVariables false
set_option maxRecDepth 100000
namespace Go.Proofs.Ytoklgjlmjkhmbaa
open Go.RowKit

set_option maxHeartbeats 4000000 in
theorem rtake1 (s : Sg) (x : Nat) (w : World) (h : SgOk s) (hr : SgRight s) (hx : x < 2 ^ 64) (hp : s.phase = 1) : Calls Try.prog 25 #[.agg (sgA s), .int .u64 x] w fun e w' => e = .returned (.agg (sgA (takeS s x))) ∧ Below w.heap.size w w' := by
  have e0 : (s.phase == 0) = false := by simp [hp]
  have e1 : (s.phase == 1) = true := by simp [hp]
  have H := fun w => ref_h2 s.hash w h.hash
  have E := fun w => refEqual_any x (s.hash % 128) w hx (by omega)
  have O := fun w => ref_on { s with ctrl := x, left := equalM x (s.hash % 128) } w hr.grp hx
  have hfin : takeS s x = onS { s with ctrl := x, left := equalM x (s.hash % 128) } := by rw [takeS, if_neg (by omega), if_pos hp]
  rw [hfin]
  clear hfin
  generalize equalM x (s.hash % 128) = m at *
  generalize hs0 : ({ s with ctrl := x, left := m } : Sg) = s0 at *
  generalize onS s0 = s1 at *
  go_enter Try.func25, Try.ntmps25
  go_upto_region 1 with fail
  have hT0 := TwoS.new s w
  generalize hW : ((w.alloc (.cells (sgA s) 33)).alloc (.cells #[.int .i64 0, .int .i64 0, .int .u64 0, .int .u64 0, .int .u64 0, .int .i64 0, .int .u64 0, .int .u8 0, .int .u64 0, .bool false] 33)) = W at hT0 ⊢
  clear hW
  obtain ⟨⟨c0, c1, c2, c3, c4, c5, c6, c7, c8, c9⟩, f⟩ := hT0.facts
  have hT0'h := Lib.hid hT0
  have hs0'h := Lib.hid hs0
  have h'h := Lib.hid h
  have hx'h := Lib.hid hx
  have hr'h := Lib.hid hr
  have E'h := Lib.hid E
  have O'h := Lib.hid O
  have H'h := Lib.hid H
  clear hT0 hs0 h hx hr E O H
  go_upto_region 9 with (first | (go_at_call 45; refine (H'h.out _).mono ?_; rintro e w4 ⟨rfl, rfl⟩) | (go_at_call 44; refine (E'h.out _).mono ?_; rintro e w2 ⟨rfl, hb2⟩; have hT2 := hT0'h.out.next hb2; have hf2 := hT2.facts; obtain ⟨⟨d0, d1, d2, d3, d4, d5, d6, d7, d8, d9⟩, hf2⟩ := hf2; have g6 := hf2 6; have g7 := hf2 7; clear hf2; have hT2'h := Lib.hid hT2; clear hT2))
  have hT := (hT2'h.out.set 6 (.int .u64 x) (set_ctrl s x)).set 7 (.int .u8 m) (set_left { s with ctrl := x } m)
  rw [hs0'h.out] at hT
  clear c0 c1 c2 c3 c4 c5 c6 c7 c8 c9 f d0 d1 d2 d3 d4 d5 d6 d7 d8 d9 g6 g7
  have hT'h := Lib.hid hT
  clear hT
  go_wp2_with (first | (refine wpList_load_row rfl _ _ rfl w.heap.size rfl 33 _ (0, 0) _ hT'h.out.at0 Try.underlying33 rfl infoSg ?_) | (go_at_call 50; refine (O'h.out _).mono ?_; rintro e w3 ⟨rfl, hb3⟩; have hT3 := hT'h.out.next hb3; have hT3'h := Lib.hid hT3; clear hT3) | (refine wpList_store_row rfl _ _ _ rfl (w.heap.size + 1) (sgA s1) rfl rfl 33 _ hT3'h.out.at1 infoSg rfl (sgA_one _) ?_))
  have hR := setRow_heap _ _ _ (sgA s1) _ _ hT3'h.out.at1
  have hB3 := below_setRow' hT3'h.out.old (show w.heap.size ≤ w.heap.size + 1 by omega) (sgA s1)
  obtain ⟨c0, c1, c2, c3, c4, c5, c6, c7, c8, c9⟩ := SgC.of (s := s1) hR
  change bodyPost _ _ _ _ _ (World.setRow w3 (w.heap.size + 1) (sgA s1))
  generalize World.setRow w3 (w.heap.size + 1) (sgA s1) = w9 at *
  refine bodyPost_ret (v := .agg (sgA s1)) ?_ rfl ⟨rfl, hB3⟩
  simp [results, Try.results25, go_sem, c0, c1, c2, c3, c4, c5, c6, c7, c8, c9, sgA]

set_option maxHeartbeats 4000000 in
theorem rtake2b (s : Sg) (x : Nat) (w : World) (h : SgOk s) (hr : SgRight s) (hx : x < 2 ^ 64) (hp : s.phase = 2) (ho : ¬ x = s.key) : Calls Try.prog 25 #[.agg (sgA s), .int .u64 x] w fun e w' => e = .returned (.agg (sgA (takeS s x))) ∧ Below w.heap.size w w' := by
  have e0 : (s.phase == 0) = false := by simp [hp]
  have e1 : (s.phase == 1) = false := by simp [hp]
  have e2 : (s.phase == 2) = true := by simp [hp]
  have hox : ((x : Int) == (s.key : Int)) = false := by simp; omega
  have h0 : s.left ≠ 0 := by rcases hr.left with q | q
                             · exact q
                             · exact absurd hp q.1
  have L := fun w => ref_least s.left w h.left h0
  have V := fun w => ref_without s.left (firstLane s.left) w h.left (firstLane_lt' h.left)
  rw [show woK s.left (firstLane s.left) 8 = dropM s.left from woK_full ⟨s.left, h.left⟩ h0] at V
  have O := fun w => ref_on { s with left := dropM s.left } w hr.grp h.ctrl
  have hfin : takeS s x = onS { s with left := dropM s.left } := by rw [takeS, if_neg (by omega), if_neg (by omega), if_pos hp, if_neg ho]
  rw [hfin]
  clear hfin
  have hset := set_left s (dropM s.left)
  generalize dropM s.left = dm at *
  generalize ({ s with left := dm } : Sg) = s0 at *
  generalize onS s0 = s1 at *
  go_enter Try.func25, Try.ntmps25
  go_upto_region 1 with fail
  have hT0 := TwoS.new s w
  generalize hW : ((w.alloc (.cells (sgA s) 33)).alloc (.cells #[.int .i64 0, .int .i64 0, .int .u64 0, .int .u64 0, .int .u64 0, .int .i64 0, .int .u64 0, .int .u8 0, .int .u64 0, .bool false] 33)) = W at hT0 ⊢
  clear hW
  obtain ⟨⟨c0, c1, c2, c3, c4, c5, c6, c7, c8, c9⟩, f⟩ := hT0.facts
  have f7 := f 7
  have hT0'h := Lib.hid hT0
  have hset'h := Lib.hid hset
  have h'h := Lib.hid h
  have hx'h := Lib.hid hx
  have hr'h := Lib.hid hr
  have L'h := Lib.hid L
  have V'h := Lib.hid V
  have O'h := Lib.hid O
  clear hT0 hset h hx hr L V O
  go_upto_region 14 with fail
  go_still_tail 7, (by kernel_rfl)
  still_call (L'h.out _)
  still_call (V'h.out _)
  repeat still_step
  refine wpStill_nil ?_
  change wpList _ _ _ _ _ W.drew
  have hT := (show TwoS s w.heap.size w W.drew from ⟨hT0'h.out.at0, hT0'h.out.at1, hT0'h.out.old.drew⟩).set 7 (.int .u8 dm) hset'h.out
  have hT'h := Lib.hid hT
  clear hT
  go_upto_region 15 with fail
  clear c0 c1 c2 c3 c4 c5 c6 c7 c8 c9 f f7
  go_wp2_with (first | (refine wpList_load_row rfl _ _ rfl w.heap.size rfl 33 _ (0, 0) _ hT'h.out.at0 Try.underlying33 rfl infoSg ?_) | (go_at_call 50; refine (O'h.out _).mono ?_; rintro e w3 ⟨rfl, hb3⟩; have hT3 := hT'h.out.next hb3; have hT3'h := Lib.hid hT3; clear hT3) | (refine wpList_store_row rfl _ _ _ rfl (w.heap.size + 1) (sgA s1) rfl rfl 33 _ hT3'h.out.at1 infoSg rfl (sgA_one _) ?_))
  have hR := setRow_heap _ _ _ (sgA s1) _ _ hT3'h.out.at1
  have hB3 := below_setRow' hT3'h.out.old (show w.heap.size ≤ w.heap.size + 1 by omega) (sgA s1)
  obtain ⟨c0, c1, c2, c3, c4, c5, c6, c7, c8, c9⟩ := SgC.of (s := s1) hR
  change bodyPost _ _ _ _ _ (World.setRow w3 (w.heap.size + 1) (sgA s1))
  generalize World.setRow w3 (w.heap.size + 1) (sgA s1) = w9 at *
  refine bodyPost_ret (v := .agg (sgA s1)) ?_ rfl ⟨rfl, hB3⟩
  simp [results, Try.results25, go_sem, c0, c1, c2, c3, c4, c5, c6, c7, c8, c9, sgA]

end Go.Proofs.Ytoklgjlmjkhmbaa

/-
  The document's answers of layer 18: Take, and the cell of a load.
-/
set_option linter.unusedSimpArgs false
set_option linter.unusedVariables false
set_option maxRecDepth 100000
namespace Go.Proofs.Ytoklgjlmjkhmbaa
open Go.RowKit

theorem ref_take (s : Sg) (x : Nat) (w : World) (h : SgOk s) (hr : SgRight s) (hh : hasS s = true) (hx : x < 2 ^ 64) : Calls Try.prog 25 #[.agg (sgA s), .int .u64 x] w fun e w' => e = .returned (.agg (sgA (takeS s x))) ∧ Below w.heap.size w w' := by
  have h4 : s.phase ≤ 4 := by simpa [hasS] using hh
  have h0 := hr.phase.1
  by_cases p0 : s.phase = 0
  · by_cases ho : x % 2 = 1
    · exact rtake0 s x w h hx p0 ho
    · exact rtake0b s x w h hx p0 ho
  · by_cases p1 : s.phase = 1
    · exact rtake1 s x w h hr hx p1
    · by_cases p2 : s.phase = 2
      · by_cases ho : x = s.key
        · exact rtake2 s x w h hx p2 ho
        · exact rtake2b s x w h hr hx p2 ho
      · by_cases p3 : s.phase = 3
        · exact rtake3 s x w h hx p3
        · have p4 : s.phase = 4 := by omega
          by_cases ho : x = s.began
          · exact rtake4 s x w h hx p4 ho
          · exact rtake4b s x w h hx p4 ho
/-- One block in a row: the sight. -/
structure OneS (s : Sg) (b : Nat) (w W : World) : Prop where
  at0 : W.heap[b]? = some (.cells (sgA s) 33 (0, 0))
  old : Below b w W
theorem OneS.next {s : Sg} {b : Nat} {w W W' : World} (h : OneS s b w W) (hb : Below W.heap.size W W') : OneS s b w W' :=
  ⟨heap_below hb h.at0 (lt_of_heap h.at0), h.old.trans (hb.mono (by have := lt_of_heap h.at0; omega))⟩
theorem OneS.new (s : Sg) (w : World) : OneS s w.heap.size w (w.alloc (.cells (sgA s) 33)) := ⟨World.alloc_heap_new w _, (Below.refl _ _).alloc (Nat.le_refl _) _⟩
set_option maxHeartbeats 4000000 in
theorem rcell0 (s : Sg) (w : World) (h : SgOk s) (hr : SgRight s) (h1 : s.phase ≠ 1) (h2 : s.phase ≠ 2) (h3 : s.phase ≠ 3) : Calls Try.prog 23 #[.agg (sgA s)] w fun e w' => e = .returned (.int .i64 (cellS s)) ∧ Below w.heap.size w w' := by
  have e1 : (s.phase == 1) = false := by simpa using h1
  have e2 : (s.phase == 2) = false := by simpa using h2
  have e3 : (s.phase == 3) = false := by simpa using h3
  have hc : cellS s = 16 + 40 * s.slab.toNat + 0 := by unfold cellS wordS; rw [if_neg h1, if_neg h2, if_neg h3]
  rw [hc]
  have C := fun w => ref_cell s.slab.toNat 0 w (by have := hr.slab; omega) (by omega)
  have hsl : ((s.slab.toNat : Nat) : Int) = s.slab := by have := hr.slab; omega
  rw [hsl] at C
  generalize 16 + 40 * s.slab.toNat + 0 = cl at *
  clear hc hsl h1 h2 h3
  go_enter Try.func23, Try.ntmps23
  go_upto_region 1 with fail
  have hO := OneS.new s w
  generalize hW : w.alloc (.cells (sgA s) 33) = W at hO ⊢
  clear hW
  obtain ⟨c0, c1, _, _, _, _, _, _, _, _⟩ := SgC.of hO.at0
  have C'h := Lib.hid C
  have hO'h := Lib.hid hO
  have h'h := Lib.hid h
  have hr'h := Lib.hid hr
  clear C hO h hr
  go_wp2_with (go_at_call 10; refine (C'h.out _).mono ?_; rintro e w2 ⟨rfl, rfl⟩)
  go_ret
  exact ⟨rfl, hO'h.out.old⟩
set_option maxHeartbeats 4000000 in
theorem rcell1 (s : Sg) (w : World) (h : SgOk s) (hr : SgRight s) (h1 : s.phase = 1) : Calls Try.prog 23 #[.agg (sgA s)] w fun e w' => e = .returned (.int .i64 (cellS s)) ∧ Below w.heap.size w w' := by
  have e1 : (s.phase == 1) = true := by simpa using h1
  have hc : cellS s = 16 + 40 * s.slab.toNat + (4 + grpS s) := by unfold cellS wordS; rw [if_pos h1]
  have hg2 := grpS_lt s
  rw [hc]
  have C := fun w => ref_cell s.slab.toNat (4 + grpS s) w (by have := hr.slab; omega) (by omega)
  have hsl : ((s.slab.toNat : Nat) : Int) = s.slab := by have := hr.slab; omega
  rw [hsl, show ((4 + grpS s : Nat) : Int) = 4 + (grpS s : Int) by omega] at C
  have G := fun w => ref_grp s w h hr
  generalize 16 + 40 * s.slab.toNat + (4 + grpS s) = cl at *
  generalize grpS s = gp at *
  have hgi : (gp : Int) < 2 := by omega
  clear hc hsl h1
  go_enter Try.func23, Try.ntmps23
  go_upto_region 1 with fail
  have hO := OneS.new s w
  generalize hW : w.alloc (.cells (sgA s) 33) = W at hO ⊢
  clear hW
  obtain ⟨c0, _, _, _, _, _, _, _, _, _⟩ := SgC.of hO.at0
  have C'h := Lib.hid C
  have hO'h := Lib.hid hO
  have h'h := Lib.hid h
  have hr'h := Lib.hid hr
  have G'h := Lib.hid G
  have hg2'h := Lib.hid hg2
  clear C hO h hr G hg2
  go_upto_region 4 with fail
  clear c0
  go_wp2_with (first | (refine wpList_load_row rfl _ _ rfl w.heap.size rfl 33 _ (0, 0) _ hO'h.out.at0 Try.underlying33 rfl infoSg ?_) | (go_at_call 47; refine (G'h.out _).mono ?_; rintro e w2 ⟨rfl, hb2⟩; have hO2 := hO'h.out.next hb2; have d1 := (SgC.of hO2.at0).2.1; have hO2'h := Lib.hid hO2; clear hO2) | (go_at_call 10; refine (C'h.out _).mono ?_; rintro e w3 ⟨rfl, rfl⟩))
  go_ret
  exact ⟨rfl, hO2'h.out.old⟩
set_option maxHeartbeats 4000000 in
theorem rcell2 (s : Sg) (w : World) (h : SgOk s) (hr : SgRight s) (hp : s.phase = 2) : Calls Try.prog 23 #[.agg (sgA s)] w fun e w' => e = .returned (.int .i64 (cellS s)) ∧ Below w.heap.size w w' := by
  have e1 : (s.phase == 1) = false := by simp [hp]
  have e2 : (s.phase == 2) = true := by simp [hp]
  have h0 : s.left ≠ 0 := by rcases hr.left with q | q
                             · exact q
                             · exact absurd hp q.1
  have hc : cellS s = 16 + 40 * s.slab.toNat + (6 + (8 * grpS s + firstLane s.left)) := by unfold cellS wordS; rw [if_neg (by omega), if_pos hp]
  have hg2 := grpS_lt s
  have hl8 := firstLane_lt' h.left
  rw [hc]
  have C := fun w => ref_cell s.slab.toNat (6 + (8 * grpS s + firstLane s.left)) w (by have := hr.slab; omega) (by omega)
  have hsl : ((s.slab.toNat : Nat) : Int) = s.slab := by have := hr.slab; omega
  rw [hsl, show ((6 + (8 * grpS s + firstLane s.left) : Nat) : Int) = 6 + 8 * (grpS s : Int) + (firstLane s.left : Int) by omega] at C
  have G := fun w => ref_grp s w h hr
  have L := fun w => ref_least s.left w h.left h0
  generalize 16 + 40 * s.slab.toNat + (6 + (8 * grpS s + firstLane s.left)) = cl at *
  generalize grpS s = gp at *
  generalize firstLane s.left = ln at *
  have hgi : (gp : Int) < 2 := by omega
  have hli : (ln : Int) < 8 := by omega
  clear hc hsl h0 hp
  go_enter Try.func23, Try.ntmps23
  go_upto_region 1 with fail
  have hO := OneS.new s w
  generalize hW : w.alloc (.cells (sgA s) 33) = W at hO ⊢
  clear hW
  obtain ⟨ph, sl, ky, ha, be, gr, ct, le, va, fo⟩ := s
  have hbl : w.heap.size < W.heap.size := lt_of_heap hO.at0
  have hkeep : ∀ W' : World, Below W.heap.size W W' → (SgC ⟨ph, sl, ky, ha, be, gr, ct, le, va, fo⟩ w.heap.size W' ∧ Below W.heap.size W W') := fun W' h => ⟨SgC.of (hO.next h).at0, h⟩
  obtain ⟨c0, c1, c2, c3, c4, c5, c6, c7, c8, c9⟩ := SgC.of hO.at0
  simp only [sgA, SgC] at *
  have C'h := Lib.hid C
  have hO'h := Lib.hid hO
  have h'h := Lib.hid h
  have hr'h := Lib.hid hr
  have G'h := Lib.hid G
  have L'h := Lib.hid L
  have hg2'h := Lib.hid hg2
  have hl8'h := Lib.hid hl8
  have hkeep'h := Lib.hid hkeep
  have hbl'h := Lib.hid hbl
  clear C hO h hr G L hg2 hl8 hkeep hbl
  go_upto_region 6 with fail
  have k2 := Below.refl W.heap.size W
  go_region_held3 (fun W' => (W'.cell? ⟨w.heap.size, 0, none⟩ = some (.int .i64 ph) ∧ W'.cell? ⟨w.heap.size, 1, none⟩ = some (.int .i64 sl) ∧ W'.cell? ⟨w.heap.size, 2, none⟩ = some (.int .u64 ky) ∧ W'.cell? ⟨w.heap.size, 3, none⟩ = some (.int .u64 ha) ∧ W'.cell? ⟨w.heap.size, 4, none⟩ = some (.int .u64 be) ∧ W'.cell? ⟨w.heap.size, 5, none⟩ = some (.int .i64 gr) ∧ W'.cell? ⟨w.heap.size, 6, none⟩ = some (.int .u64 ct) ∧ W'.cell? ⟨w.heap.size, 7, none⟩ = some (.int .u8 le) ∧ W'.cell? ⟨w.heap.size, 8, none⟩ = some (.int .u64 va) ∧ W'.cell? ⟨w.heap.size, 9, none⟩ = some (.bool fo)) ∧ Below W.heap.size W W') (first | exact hkeep'h.out _ (by assumption) | exact hkeep'h.out _ (Below.drew (by assumption)) | (go_split_ands; first | exact hkeep'h.out _ (by assumption) | exact hkeep'h.out _ (Below.drew (by assumption)) | exact hkeep'h.out _ (below_next (by assumption) (by assumption))) | fail) (first | (go_at_call 47; refine (G'h.out _).mono ?_; rintro e w3 ⟨rfl, hb3⟩) | (go_at_call 48; refine (L'h.out _).mono ?_; rintro e w4 ⟨rfl, rfl⟩) | fail)
  all_goals
    have hB3 := below_next (Below.drew (Below.refl W.heap.size W)) hb3
    have d1 := (hkeep'h.out _ hB3).1.2.1
    clear c0 c1 c2 c3 c4 c5 c6 c7 c8 c9 k2 hb3
    have hB3'h := Lib.hid hB3
    clear hB3
    go_wp2_with (go_at_call 10; refine (C'h.out _).mono ?_; rintro e w5 ⟨rfl, rfl⟩)
    go_ret
    exact ⟨rfl, hO'h.out.old.trans (hB3'h.out.mono (by have := hbl'h.out; omega))⟩
set_option maxHeartbeats 4000000 in
theorem rcell3 (s : Sg) (w : World) (h : SgOk s) (hr : SgRight s) (hp : s.phase = 3) : Calls Try.prog 23 #[.agg (sgA s)] w fun e w' => e = .returned (.int .i64 (cellS s)) ∧ Below w.heap.size w w' := by
  have e1 : (s.phase == 1) = false := by simp [hp]
  have e2 : (s.phase == 2) = false := by simp [hp]
  have e3 : (s.phase == 3) = true := by simp [hp]
  have h0 : s.left ≠ 0 := by rcases hr.left with q | q
                             · exact q
                             · exact absurd hp q.2
  have hc : cellS s = 16 + 40 * s.slab.toNat + (22 + (8 * grpS s + firstLane s.left)) := by unfold cellS wordS; rw [if_neg (by omega), if_neg (by omega), if_pos hp]
  have hg2 := grpS_lt s
  have hl8 := firstLane_lt' h.left
  rw [hc]
  have C := fun w => ref_cell s.slab.toNat (22 + (8 * grpS s + firstLane s.left)) w (by have := hr.slab; omega) (by omega)
  have hsl : ((s.slab.toNat : Nat) : Int) = s.slab := by have := hr.slab; omega
  rw [hsl, show ((22 + (8 * grpS s + firstLane s.left) : Nat) : Int) = 22 + 8 * (grpS s : Int) + (firstLane s.left : Int) by omega] at C
  have G := fun w => ref_grp s w h hr
  have L := fun w => ref_least s.left w h.left h0
  generalize 16 + 40 * s.slab.toNat + (22 + (8 * grpS s + firstLane s.left)) = cl at *
  generalize grpS s = gp at *
  generalize firstLane s.left = ln at *
  have hgi : (gp : Int) < 2 := by omega
  have hli : (ln : Int) < 8 := by omega
  clear hc hsl h0 hp
  go_enter Try.func23, Try.ntmps23
  go_upto_region 1 with fail
  have hO := OneS.new s w
  generalize hW : w.alloc (.cells (sgA s) 33) = W at hO ⊢
  clear hW
  obtain ⟨ph, sl, ky, ha, be, gr, ct, le, va, fo⟩ := s
  have hbl : w.heap.size < W.heap.size := lt_of_heap hO.at0
  have hkeep : ∀ W' : World, Below W.heap.size W W' → (SgC ⟨ph, sl, ky, ha, be, gr, ct, le, va, fo⟩ w.heap.size W' ∧ Below W.heap.size W W') := fun W' h => ⟨SgC.of (hO.next h).at0, h⟩
  obtain ⟨c0, c1, c2, c3, c4, c5, c6, c7, c8, c9⟩ := SgC.of hO.at0
  simp only [sgA, SgC] at *
  have C'h := Lib.hid C
  have hO'h := Lib.hid hO
  have h'h := Lib.hid h
  have hr'h := Lib.hid hr
  have G'h := Lib.hid G
  have L'h := Lib.hid L
  have hg2'h := Lib.hid hg2
  have hl8'h := Lib.hid hl8
  have hkeep'h := Lib.hid hkeep
  have hbl'h := Lib.hid hbl
  clear C hO h hr G L hg2 hl8 hkeep hbl
  go_upto_region 8 with fail
  have k2 := Below.refl W.heap.size W
  go_region_held3 (fun W' => (W'.cell? ⟨w.heap.size, 0, none⟩ = some (.int .i64 ph) ∧ W'.cell? ⟨w.heap.size, 1, none⟩ = some (.int .i64 sl) ∧ W'.cell? ⟨w.heap.size, 2, none⟩ = some (.int .u64 ky) ∧ W'.cell? ⟨w.heap.size, 3, none⟩ = some (.int .u64 ha) ∧ W'.cell? ⟨w.heap.size, 4, none⟩ = some (.int .u64 be) ∧ W'.cell? ⟨w.heap.size, 5, none⟩ = some (.int .i64 gr) ∧ W'.cell? ⟨w.heap.size, 6, none⟩ = some (.int .u64 ct) ∧ W'.cell? ⟨w.heap.size, 7, none⟩ = some (.int .u8 le) ∧ W'.cell? ⟨w.heap.size, 8, none⟩ = some (.int .u64 va) ∧ W'.cell? ⟨w.heap.size, 9, none⟩ = some (.bool fo)) ∧ Below W.heap.size W W') (first | exact hkeep'h.out _ (by assumption) | exact hkeep'h.out _ (Below.drew (by assumption)) | (go_split_ands; first | exact hkeep'h.out _ (by assumption) | exact hkeep'h.out _ (Below.drew (by assumption)) | exact hkeep'h.out _ (below_next (by assumption) (by assumption))) | fail) (first | (go_at_call 47; refine (G'h.out _).mono ?_; rintro e w3 ⟨rfl, hb3⟩) | (go_at_call 48; refine (L'h.out _).mono ?_; rintro e w4 ⟨rfl, rfl⟩) | fail)
  all_goals
    have hB3 := below_next (Below.drew (Below.refl W.heap.size W)) hb3
    have d1 := (hkeep'h.out _ hB3).1.2.1
    clear c0 c1 c2 c3 c4 c5 c6 c7 c8 c9 k2 hb3
    have hB3'h := Lib.hid hB3
    clear hB3
    go_wp2_with (go_at_call 10; refine (C'h.out _).mono ?_; rintro e w5 ⟨rfl, rfl⟩)
    go_ret
    exact ⟨rfl, hO'h.out.old.trans (hB3'h.out.mono (by have := hbl'h.out; omega))⟩
theorem ref_rcell (s : Sg) (w : World) (h : SgOk s) (hr : SgRight s) : Calls Try.prog 23 #[.agg (sgA s)] w fun e w' => e = .returned (.int .i64 (cellS s)) ∧ Below w.heap.size w w' := by
  by_cases p1 : s.phase = 1
  · exact rcell1 s w h hr p1
  · by_cases p2 : s.phase = 2
    · exact rcell2 s w h hr p2
    · by_cases p3 : s.phase = 3
      · exact rcell3 s w h hr p3
      · exact rcell0 s w h hr p1 p2 p3
end Go.Proofs.Ytoklgjlmjkhmbaa

