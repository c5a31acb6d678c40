/-
  LanesBlends, walked.
-/
import Derived.Test.YtfomcnbpkdkohaaLawTurns
import Derived.Test.YtfomcnbpkdkohaaLanesT
import Derived.Test.YtfomcnbpkdkohaaCommon
import Derived.Deep.RegionHeld3
set_option linter.unusedSimpArgs false
set_option linter.unusedVariables false
namespace Go.Proofs.Ytfomcnbpkdkohaa
open Go.RowKit

theorem row_len {w : World} {base : Nat} {e : TypeId} {size : Nat} {sp : Option Addr} {n cap L : Nat} {xs : List Value} (h : w.ownsRow base e size (.slice sp n cap) L xs) : n = L := by
  rcases h.2 with ⟨h1, h0⟩ | ⟨g, c, cur, h1, _⟩
  · injection h1 with _ h2; omega
  · injection h1
theorem tmod8 (n : Int) : ∃ (m : Nat) (r : Int), n.tmod 8 = r ∧ r < 8 ∧ -8 < r ∧ (m : Int) = r % 8 ∧ (n % 8).toNat = m := by
  have h1 : n.tmod 8 < 8 := Int.tmod_lt_of_pos _ (by decide)
  have h2 : -8 < n.tmod 8 := by have := Int.tmod_lt_of_pos (-n) (show (0 : Int) < 8 by decide); rw [Int.neg_tmod] at this; omega
  have h3 := Int.tmod_add_mul_tdiv n 8
  exact ⟨(n % 8).toNat, _, rfl, h1, h2, by omega, rfl⟩
theorem ints_of (l : List Nat) : ints l = intsOf .i64 (l.map Int.ofNat) := by unfold ints intsOf; rw [List.map_map]; rfl
theorem turn_lt' (x m : Nat) : True := trivial
set_option maxRecDepth 100000 in
set_option maxHeartbeats 2000000 in
theorem walk_LanesBlends (a0a a0b a1 : Int) (sp : Option Addr) (n cap : Nat) (zs : List Int) (w : World) (w0 : (Lit.int .u64 a0a).wf = true) (w0b : (Lit.int .u64 a0b).wf = true) (w1 : (Lit.int .u8 a1).wf = true) (hc : sp = none → cap = 0) (hcap : n ≤ cap) (h : Sl w sp n (zs.map (Value.int .i64))) (hz : ∀ z ∈ zs, (Lit.int .i64 z).wf = true) :
    Calls Try.prog 8 #[.agg #[.int .u64 a0a, .int .u64 a0b], .int .u8 a1, .slice sp n cap] w fun e w' => e = .returned (.bool true) ∧ Below w.heap.size w w' := by
  obtain ⟨v, rfl, hv⟩ := nat_of_u64 w0
  obtain ⟨u, rfl, hu⟩ := nat_of_u64 w0b
  obtain ⟨m, rfl, hm⟩ := nat_of_u8 w1
  have hlen : n = zs.length := by have := h.1; simpa using this
  have hmax := h.2.1
  unfold maxLen at hmax
  clear w0 w0b w1
  have hb0 : Below w.heap.size w (w.alloc (.cells #[.int .u64 v, .int .u64 u] 54)) := (Below.refl _ _).alloc (Nat.le_refl _) _
  have hblk : (w.alloc (.cells #[.int .u64 v, .int .u64 u] 54)).heap[w.heap.size]? = some (.cells #[.int .u64 v, .int .u64 u] 54) := World.alloc_heap_new _ _
  have hfl : firstLane m = (lanesOf m).headD 0 := rfl
  have hsl : someLane m = !(lanesOf m).isEmpty := rfl
  have hL8 : (lanesOf m).length ≤ 8 := by have := lanesK_le m 8; rwa [lanesK_full] at this
  have hv'h := Lib.hid hv
  have hu'h := Lib.hid hu
  have hm'h := Lib.hid hm
  have h'h := Lib.hid h
  have hlen'h := Lib.hid hlen
  have hc'h := Lib.hid hc
  have hb0'h := Lib.hid hb0
  have hblk'h := Lib.hid hblk
  have hfl'h := Lib.hid hfl
  have hsl'h := Lib.hid hsl
  have hz'h := Lib.hid hz
  clear hv hu hm h hlen hc hb0 hblk hfl hsl hz
  go_enter Try.func8, Try.ntmps8
  go_wp2_with fail
  refine (wakes_any _).mono ?_
  rintro e w1 ⟨rfl, hb1⟩
  have hblk1 := heap_below hb1 hblk'h.out (lt_of_heap hblk'h.out)
  have hB1 := hb0'h.out.trans (hb1.mono hb0'h.out.size)
  clear hb1
  have hblk1'h := Lib.hid hblk1
  have hB1'h := Lib.hid hB1
  clear hblk1 hB1
  go_wp2_with fail
  refine (refAll_any m w1 hm'h.out).mono ?_
  rintro e w2 ⟨ap, an, ac, rfl, hB2, hrow2⟩
  obtain rfl := row_len hrow2
  have hB2'h := Lib.hid hB2
  have hrow2'h := Lib.hid hrow2
  clear hB2 hrow2
  go_wp2_with fail
  refine (first_any m hm'h.out w2).mono ?_
  rintro e w3 ⟨rfl, hB3⟩
  have hrow3 := ownsRow_next hrow2'h.out hB3
  have hBw3 := (below_next hB1'h.out (below_next hB2'h.out hB3))
  have hblk3 := heap_below (hB2'h.out.trans (hB3.mono hB2'h.out.size)) hblk1'h.out (lt_of_heap hblk1'h.out)
  have hSl3 := Sl.of_row hrow3 (by unfold maxLen; omega)
  have hS3 := h'h.out.below hBw3
  have d0 : w3.cell? ⟨w.heap.size, 0, none⟩ = some (.int .u64 v) := blk_cell hblk3 rfl
  have d1 : w3.cell? ⟨w.heap.size, 1, none⟩ = some (.int .u64 u) := blk_cell (i := 1) hblk3 rfl
  have hkeep : ∀ W : World, Below w3.heap.size w3 W → (W.cell? ⟨w.heap.size, 0, none⟩ = some (.int .u64 v) ∧ W.cell? ⟨w.heap.size, 1, none⟩ = some (.int .u64 u) ∧ Below w3.heap.size w3 W) := fun W h =>
    ⟨(h.cell (p := ⟨w.heap.size, 0, none⟩) (lt_of_cell d0)).trans d0, (h.cell (p := ⟨w.heap.size, 1, none⟩) (lt_of_cell d1)).trans d1, h⟩
  have hhead : 0 < (lanesOf m).length → w3.cell? ⟨w.heap.size, 1, none⟩ = some (.int .u64 u) ∧ ∃ b o, ap = some ⟨b, o, none⟩ ∧ w3.cell? ⟨b, o + 0, none⟩ = some (.int .i64 (firstLane m)) := by
    intro h0
    obtain ⟨b, o, rfl, hcs⟩ := hSl3.some' h0
    refine ⟨d1, b, o, rfl, hcs 0 _ ?_⟩
    unfold firstLane ints
    cases hl : lanesOf m with
    | nil => rw [hl] at h0; simp at h0
    | cons x r => rfl
  clear hB3
  have hrow3'h := Lib.hid hrow3
  have hBw3'h := Lib.hid hBw3
  have hblk3'h := Lib.hid hblk3
  have hSl3'h := Lib.hid hSl3
  have hS3'h := Lib.hid hS3
  have hkeep'h := Lib.hid hkeep
  have hhead'h := Lib.hid hhead
  clear hrow3 hBw3 hblk3 hSl3 hS3 hkeep hhead
  have HB := fun W (h : Below w3.heap.size w3 W) => blend_any v u m W hv'h.out hu'h.out hm'h.out
  have HR := fun W (h : Below w3.heap.size w3 W) => refBlend_any v u m W hv'h.out hu'h.out hm'h.out
  have HA := fun W (h : Below w3.heap.size w3 W) => all_any m hm'h.out W
  have HE := fun W sp' cap' (h : Below w3.heap.size w3 W) (h' : Sl W sp' (lanesOf m).length (ints (lanesOf m))) => equalI_same sp' ap (lanesOf m).length cap' ac ((lanesOf m).map Int.ofNat) W (by rw [← ints_of]; exact h') (by rw [← ints_of]; exact hSl3'h.out.below h)
  have e0 : ((blendW v u m : Int) != (blendW v u m : Int)) = false := by simp
  have e2 : ((firstLane m : Int) != (firstLane m : Int)) = false := by simp
  generalize blendW v u m = bw at *
  have HB'h := Lib.hid HB
  have HR'h := Lib.hid HR
  have HA'h := Lib.hid HA
  have HE'h := Lib.hid HE
  clear HB HR HA HE
  cases hsome : someLane m with
  | true =>
    have h0 : 0 < (lanesOf m).length := by
      rw [hsl'h.out] at hsome
      cases hl : lanesOf m with
      | nil => rw [hl] at hsome; simp at hsome
      | cons x r => simp
    obtain ⟨_, ab, ao, rfl, c0⟩ := hhead'h.out h0
    have g0 : decide ((0 : Int) < ((lanesOf m).length : Int)) = true := by rw [decide_eq_true_eq]; omega
    have c0' : w3.cell? ⟨ab, ao, none⟩ = some (.int .i64 (firstLane m)) := c0
    have hsome'h := Lib.hid hsome
    have h0'h := Lib.hid h0
    clear hsome h0
    obtain ⟨k1, k2, k3⟩ := hkeep'h.out w3 (Below.refl _ _)
    go_wp2_with fail
    go_region_held3 (fun W => W.cell? ⟨w.heap.size, 0, none⟩ = some (.int .u64 v) ∧ W.cell? ⟨w.heap.size, 1, none⟩ = some (.int .u64 u) ∧ Below w3.heap.size w3 W)
      (first | exact hkeep'h.out _ (by assumption) | exact hkeep'h.out _ (Below.drew (by assumption)) | (go_split_ands; first | exact hkeep'h.out _ (by assumption) | exact hkeep'h.out _ (Below.drew (by assumption)) | exact hkeep'h.out _ (below_next (by assumption) (by assumption)) | exact hkeep'h.out _ (below_next (by assumption) (below_drewN' _ _))))
      (first | (go_at_call 24; refine (HB'h.out _ (by first | assumption | exact Below.drew (by assumption) | (go_split_ands; first | assumption | exact Below.drew (by assumption)))).mono ?_; rintro e w7 ⟨rfl, hB7⟩) | (go_at_call 34; refine (HR'h.out _ (by first | assumption | exact Below.drew (by assumption) | (go_split_ands; first | assumption | exact Below.drew (by assumption)))).mono ?_; rintro e w8 ⟨rfl, hB8⟩) | (go_at_call 23; refine (HA'h.out _ (by first | assumption | exact Below.drew (by assumption) | (go_split_ands; first | assumption | exact Below.drew (by assumption)))).mono ?_; rintro e w9 ⟨bp, bn, bc, rfl, hB9, hrow9⟩; obtain rfl := row_len hrow9; have hSl9 := Sl.of_row hrow9 (by unfold maxLen; omega)) | (go_at_call 35; refine (HE'h.out _ _ _ (by first | assumption | exact Below.drew (by assumption) | (go_split_ands; first | assumption | exact Below.drew (by assumption))) (by assumption)).mono ?_; rintro e w10 ⟨rfl, dq, rfl⟩))
    have hBz : Below w3.heap.size w3 (w9.drewN dq) := (below_next (below_next (below_next (Below.refl w3.heap.size w3).drew hB7) hB8) hB9).trans (below_drewN' _ _)
    obtain ⟨wz, hwz⟩ : ∃ wz, wz = w9.drewN dq := ⟨_, rfl⟩
    rw [← hwz] at hBz ⊢
    clear hwz hB7 hB8 hB9 hrow9 hSl9 k1 k2 k3
    have hBz'h := Lib.hid hBz
    clear hBz
    go_wp2
    go_loopg [62] n (fun q i wr => ∃ k : Nat, k + q = n ∧ i = .int .i64 k ∧ Below w3.heap.size w3 wr)
    case atStart => exact ⟨0, by omega, rfl, hBz'h.out⟩
    case round =>
      obtain ⟨k, hk, rfl, hB⟩ := hrel
      by_cases hlt : k < n
      · have hkl : k < zs.length := by have := hlen'h.out; omega
        obtain ⟨b, off, rfl, hcs⟩ := (hS3'h.out.below hB).some' (by omega)
        have c1 : wr.cell? ⟨b, off + k, none⟩ = some (.int .i64 (nthZ zs k)) := hcs k _ (i64s_at hkl)
        clear hcs
        by_cases h10 : k < 10
        · have d10 : decide ((k : Int) < 10) = true := by rw [decide_eq_true_eq]; omega
          obtain ⟨j, r, hr, hr1, hr2, hm, he⟩ := tmod8 (nthZ zs k)
          have T := fun W => turn_any v (nthZ zs k) W hv'h.out
          have R := fun W => refTurn_any v j (nthZ zs k) r W hv'h.out hr hr1 hr2 hm
          rw [he] at T
          have e4 : ((turnW v j : Int) != (turnW v j : Int)) = false := by simp
          clear hr hr1 hr2 hm he
          generalize turnW v j = y at *
          generalize nthZ zs k = x at *
          obtain ⟨k1, k2, k3⟩ := hkeep'h.out wr hB
          have hk'h := Lib.hid hk
          have T'h := Lib.hid T
          have R'h := Lib.hid R
          have hkl'h := Lib.hid hkl
          have h10'h := Lib.hid h10
          clear hk T R hkl h10
          go_wp2_with fail
          go_region_held3 (fun W => W.cell? ⟨w.heap.size, 0, none⟩ = some (.int .u64 v) ∧ W.cell? ⟨w.heap.size, 1, none⟩ = some (.int .u64 u) ∧ Below w3.heap.size w3 W) (first | exact hkeep'h.out _ (by assumption) | exact hkeep'h.out _ (Below.drew (by assumption)) | (go_split_ands; first | exact hkeep'h.out _ (by assumption) | exact hkeep'h.out _ (Below.drew (by assumption)) | exact hkeep'h.out _ (below_next (by assumption) (by assumption)) | exact hkeep'h.out _ (below_next (by assumption) (below_drewN' _ _)))) (first | (go_at_call 16; refine (T'h.out _).mono ?_; rintro e w7 ⟨rfl, rfl⟩) | (go_at_call 36; refine (R'h.out _).mono ?_; rintro e w8 ⟨rfl, hB8⟩))
          have hBn : Below w3.heap.size w3 w8 := below_next hB.drew hB8
          clear hB hB8 k1 k2 k3
          have hBn'h := Lib.hid hBn
          clear hBn
          go_wp2
          go_roundg (gk - 1)
          case measure => have := hk'h.out; omega
          case rel => exact ⟨k + 1, by have := hk'h.out; omega, by go_num, hBn'h.out⟩
        · have d10 : decide ((k : Int) < 10) = false := by rw [decide_eq_false_iff_not]; omega
          have hk'h := Lib.hid hk
          have hB'h := Lib.hid hB
          have hkl'h := Lib.hid hkl
          have h10'h := Lib.hid h10
          clear hk hB hkl h10
          go_wp2_with fail
          go_quiet (fail)
          go_wp2
          go_roundg (gk - 1)
          case measure => have := hk'h.out; omega
          case rel => exact ⟨k + 1, by have := hk'h.out; omega, by go_num, hB'h.out.trans (below_drewN' _ _)⟩
      · have hd : ¬ ((k : Int) < (n : Int)) := by omega
        have hk'h := Lib.hid hk
        have hB'h := Lib.hid hB
        clear hk hB
        go_wp2
        go_ret
        exact ⟨rfl, hBw3'h.out.trans (hB'h.out.mono hBw3'h.out.size)⟩
  | false =>
    have h0 : (lanesOf m).length = 0 := by
      rw [hsl'h.out] at hsome
      cases hl : lanesOf m with
      | nil => simp
      | cons x r => rw [hl] at hsome; simp at hsome
    have hf0 : firstLane m = 0 := by
      rw [hfl'h.out]
      cases hl : lanesOf m with
      | nil => rfl
      | cons x r => rw [hl] at h0; simp at h0
    have g0 : decide ((0 : Int) < ((lanesOf m).length : Int)) = false := by rw [decide_eq_false_iff_not]; omega
    have g1 : ¬ 0 < (lanesOf m).length := by omega
    have g2 : ¬ (0 : Int) < ((lanesOf m).length : Int) := by omega
    have g3 : decide (0 < (lanesOf m).length) = false := by rw [decide_eq_false_iff_not]; omega
    rw [hf0] at e2
    rw [hf0]
    have hsome'h := Lib.hid hsome
    have h0'h := Lib.hid h0
    have hf0'h := Lib.hid hf0
    clear hsome h0 hf0
    obtain ⟨k1, k2, k3⟩ := hkeep'h.out w3 (Below.refl _ _)
    go_wp2_with fail
    go_region_held3 (fun W => W.cell? ⟨w.heap.size, 0, none⟩ = some (.int .u64 v) ∧ W.cell? ⟨w.heap.size, 1, none⟩ = some (.int .u64 u) ∧ Below w3.heap.size w3 W)
      (first | exact hkeep'h.out _ (by assumption) | exact hkeep'h.out _ (Below.drew (by assumption)) | (go_split_ands; first | exact hkeep'h.out _ (by assumption) | exact hkeep'h.out _ (Below.drew (by assumption)) | exact hkeep'h.out _ (below_next (by assumption) (by assumption)) | exact hkeep'h.out _ (below_next (by assumption) (below_drewN' _ _))))
      (first | (go_at_call 24; refine (HB'h.out _ (by first | assumption | exact Below.drew (by assumption) | (go_split_ands; first | assumption | exact Below.drew (by assumption)))).mono ?_; rintro e w7 ⟨rfl, hB7⟩) | (go_at_call 34; refine (HR'h.out _ (by first | assumption | exact Below.drew (by assumption) | (go_split_ands; first | assumption | exact Below.drew (by assumption)))).mono ?_; rintro e w8 ⟨rfl, hB8⟩) | (go_at_call 23; refine (HA'h.out _ (by first | assumption | exact Below.drew (by assumption) | (go_split_ands; first | assumption | exact Below.drew (by assumption)))).mono ?_; rintro e w9 ⟨bp, bn, bc, rfl, hB9, hrow9⟩; obtain rfl := row_len hrow9; have hSl9 := Sl.of_row hrow9 (by unfold maxLen; omega)) | (go_at_call 35; refine (HE'h.out _ _ _ (by first | assumption | exact Below.drew (by assumption) | (go_split_ands; first | assumption | exact Below.drew (by assumption))) (by assumption)).mono ?_; rintro e w10 ⟨rfl, dq, rfl⟩))
    have hBz : Below w3.heap.size w3 (w9.drewN dq) := (below_next (below_next (below_next (Below.refl w3.heap.size w3).drew hB7) hB8) hB9).trans (below_drewN' _ _)
    obtain ⟨wz, hwz⟩ : ∃ wz, wz = w9.drewN dq := ⟨_, rfl⟩
    rw [← hwz] at hBz ⊢
    clear hwz hB7 hB8 hB9 hrow9 hSl9 k1 k2 k3
    have hBz'h := Lib.hid hBz
    clear hBz
    go_wp2
    go_loopg [62] n (fun q i wr => ∃ k : Nat, k + q = n ∧ i = .int .i64 k ∧ Below w3.heap.size w3 wr)
    case atStart => exact ⟨0, by omega, rfl, hBz'h.out⟩
    case round =>
      obtain ⟨k, hk, rfl, hB⟩ := hrel
      by_cases hlt : k < n
      · have hkl : k < zs.length := by have := hlen'h.out; omega
        obtain ⟨b, off, rfl, hcs⟩ := (hS3'h.out.below hB).some' (by omega)
        have c1 : wr.cell? ⟨b, off + k, none⟩ = some (.int .i64 (nthZ zs k)) := hcs k _ (i64s_at hkl)
        clear hcs
        by_cases h10 : k < 10
        · have d10 : decide ((k : Int) < 10) = true := by rw [decide_eq_true_eq]; omega
          obtain ⟨j, r, hr, hr1, hr2, hm, he⟩ := tmod8 (nthZ zs k)
          have T := fun W => turn_any v (nthZ zs k) W hv'h.out
          have R := fun W => refTurn_any v j (nthZ zs k) r W hv'h.out hr hr1 hr2 hm
          rw [he] at T
          have e4 : ((turnW v j : Int) != (turnW v j : Int)) = false := by simp
          clear hr hr1 hr2 hm he
          generalize turnW v j = y at *
          generalize nthZ zs k = x at *
          obtain ⟨k1, k2, k3⟩ := hkeep'h.out wr hB
          have hk'h := Lib.hid hk
          have T'h := Lib.hid T
          have R'h := Lib.hid R
          have hkl'h := Lib.hid hkl
          have h10'h := Lib.hid h10
          clear hk T R hkl h10
          go_wp2_with fail
          go_region_held3 (fun W => W.cell? ⟨w.heap.size, 0, none⟩ = some (.int .u64 v) ∧ W.cell? ⟨w.heap.size, 1, none⟩ = some (.int .u64 u) ∧ Below w3.heap.size w3 W) (first | exact hkeep'h.out _ (by assumption) | exact hkeep'h.out _ (Below.drew (by assumption)) | (go_split_ands; first | exact hkeep'h.out _ (by assumption) | exact hkeep'h.out _ (Below.drew (by assumption)) | exact hkeep'h.out _ (below_next (by assumption) (by assumption)) | exact hkeep'h.out _ (below_next (by assumption) (below_drewN' _ _)))) (first | (go_at_call 16; refine (T'h.out _).mono ?_; rintro e w7 ⟨rfl, rfl⟩) | (go_at_call 36; refine (R'h.out _).mono ?_; rintro e w8 ⟨rfl, hB8⟩))
          have hBn : Below w3.heap.size w3 w8 := below_next hB.drew hB8
          clear hB hB8 k1 k2 k3
          have hBn'h := Lib.hid hBn
          clear hBn
          go_wp2
          go_roundg (gk - 1)
          case measure => have := hk'h.out; omega
          case rel => exact ⟨k + 1, by have := hk'h.out; omega, by go_num, hBn'h.out⟩
        · have d10 : decide ((k : Int) < 10) = false := by rw [decide_eq_false_iff_not]; omega
          have hk'h := Lib.hid hk
          have hB'h := Lib.hid hB
          have hkl'h := Lib.hid hkl
          have h10'h := Lib.hid h10
          clear hk hB hkl h10
          go_wp2_with fail
          go_quiet (fail)
          go_wp2
          go_roundg (gk - 1)
          case measure => have := hk'h.out; omega
          case rel => exact ⟨k + 1, by have := hk'h.out; omega, by go_num, hB'h.out.trans (below_drewN' _ _)⟩
      · have hd : ¬ ((k : Int) < (n : Int)) := by omega
        have hk'h := Lib.hid hk
        have hB'h := Lib.hid hB
        clear hk hB
        go_wp2
        go_ret
        exact ⟨rfl, hBw3'h.out.trans (hB'h.out.mono hBw3'h.out.size)⟩
end Go.Proofs.Ytfomcnbpkdkohaa
