/-
  ProbeRows, walked.
-/
import Derived.Test.YtkeegafebnhcpaaProbeW
set_option linter.unusedSimpArgs false
set_option linter.unusedVariables false
namespace Go.Proofs.Ytkeegafebnhcpaa
open Go.RowKit

theorem good_split {g : Int} (h : goodG g = true) : ∃ G : Nat, g = (G : Int) ∧ goodB G = true := by
  unfold goodG at h
  rw [Bool.and_eq_true, decide_eq_true_eq] at h
  exact ⟨g.toNat, by omega, h.2⟩
set_option maxRecDepth 100000 in
set_option maxHeartbeats 2000000 in
theorem walk_ProbeRows (a0 a1 : Int) (sp : Option Addr) (n cap : Nat) (zs : List Int) (w : World) (w0 : (Lit.int .i64 a0).wf = true) (w1 : (Lit.int .u64 a1).wf = true) (hc : sp = none → cap = 0) (hcap : n ≤ cap) (h : Sl w sp n (zs.map (Value.int .i64))) (hz : ∀ z ∈ zs, (Lit.int .i64 z).wf = true) :
    Calls Try.prog 6 #[.int .i64 a0, .int .u64 a1, .slice sp n cap] w fun e w' => e = .returned (.bool true) ∧ Below w.heap.size w w' := by
  obtain ⟨x, rfl, hx⟩ := nat_of_u64 w1
  have hbd := bd_of_i64 w0
  have hlen : n = zs.length := by have := h.1; simpa using this
  have hmax := h.2.1
  unfold maxLen at hmax
  clear w0 w1
  cases hg : goodG a0 with
  | false =>
    have M := fun w => ref_may a0 w
    rw [hg] at M
    have C := fun w => check_no a0 w hg hbd
    have R := fun w => row_no a0 x w hg hbd
    have A := fun w => at_no a0 0 x w hg hbd
    have P := fun w => place_no a0 0 x w hg hbd
    have hx'h := Lib.hid hx
    have h'h := Lib.hid h
    have hlen'h := Lib.hid hlen
    have hc'h := Lib.hid hc
    have hz'h := Lib.hid hz
    have hg'h := Lib.hid hg
    have hbd'h := Lib.hid hbd
    have M'h := Lib.hid M
    have C'h := Lib.hid C
    have R'h := Lib.hid R
    have A'h := Lib.hid A
    have P'h := Lib.hid P
    clear hx h hlen hc hz hg hbd M C R A P
    go_enter Try.func6, Try.ntmps6
    go_wp2_with fail
    refine (wakes_any _).mono ?_
    rintro e w1 ⟨rfl, hb1⟩
    go_wp2_with fail
    refine (M'h.out _).mono ?_
    rintro e w' ⟨rfl, rfl⟩
    go_wp2_with fail
    refine (C'h.out _).mono ?_
    rintro e w' ⟨rfl, rfl⟩
    go_wp2_with fail
    refine (R'h.out _).mono ?_
    rintro e w' ⟨rfl, rfl⟩
    go_wp2_with fail
    refine (A'h.out _).mono ?_
    rintro e w' ⟨rfl, rfl⟩
    go_wp2_with fail
    refine (P'h.out _).mono ?_
    rintro e w2 ⟨rfl, hb2⟩
    go_wp2
    go_ret
    exact ⟨rfl, below_next hb1 hb2⟩
  | true =>
    obtain ⟨G, rfl, hG⟩ := good_split hg
    have M := fun w => ref_may (G : Int) w
    rw [hg] at M
    have C := fun w => check_yes G w hG
    have R := fun w => row_yes G x w hG hx
    have RR := fun w => ref_row G x w hG hx
    have h1 := good_le hG
    have A1 := fun (i : Nat) w (hi : i < G) => at_yes G x i w hG hx hi
    have A2 := fun (i : Nat) w (hi : i < G) => ref_at G x i w hG hx hi
    have P1 := fun (i : Nat) w (hi : i < G) => place_yes G x i w hG hx hi
    have P2 := fun (i : Nat) w (hi : i < G) => ref_place G x i w hG hx hi
    have A3 := fun (i : Int) w (hi : ¬ (0 ≤ i ∧ i < G)) => at_out G x i w hG hi
    have P3 := fun (i : Int) w (hi : ¬ (0 ≤ i ∧ i < G)) => place_out G x i w hG hx hi
    have hx'h := Lib.hid hx
    have h'h := Lib.hid h
    have hlen'h := Lib.hid hlen
    have hc'h := Lib.hid hc
    have hz'h := Lib.hid hz
    have hg'h := Lib.hid hg
    have hbd'h := Lib.hid hbd
    have M'h := Lib.hid M
    have C'h := Lib.hid C
    have R'h := Lib.hid R
    have RR'h := Lib.hid RR
    have hG'h := Lib.hid hG
    have A1'h := Lib.hid A1
    have A2'h := Lib.hid A2
    have P1'h := Lib.hid P1
    have P2'h := Lib.hid P2
    have A3'h := Lib.hid A3
    have P3'h := Lib.hid P3
    clear hx h hlen hc hz hg hbd M C R RR hG A1 A2 P1 P2 A3 P3
    go_enter Try.func6, Try.ntmps6
    go_wp2_with fail
    refine (wakes_any _).mono ?_
    rintro e w1 ⟨rfl, hb1⟩
    go_wp2_with fail
    refine (M'h.out _).mono ?_
    rintro e w' ⟨rfl, rfl⟩
    go_wp2_with fail
    refine (C'h.out _).mono ?_
    rintro e w' ⟨rfl, rfl⟩
    go_wp2_with fail
    refine (R'h.out _).mono ?_
    rintro e w2 ⟨rp, rc, rfl, hb2, hr2⟩
    have hB2 := below_next hb1 hb2
    have hs2 := Sl.of_row hr2 (by unfold maxLen; omega)
    clear hb1 hb2 hr2
    have hB2'h := Lib.hid hB2
    have hs2'h := Lib.hid hs2
    clear hB2 hs2
    go_wp2_with fail
    refine (RR'h.out _).mono ?_
    rintro e w3 ⟨qp, qc, rfl, hb3, hr3⟩
    have hB3 := below_next hB2'h.out hb3
    have hs3 := Sl.of_row hr3 (by unfold maxLen; omega)
    have Q := equalI_any rp qp G G rc qc _ _ w3 (hs2'h.out.below hb3) hs3
    rw [i64_self] at Q
    clear hb3 hr3
    have hB3'h := Lib.hid hB3
    have hs3'h := Lib.hid hs3
    have Q'h := Lib.hid Q
    clear hB3 hs3 Q
    go_wp2_with fail
    refine Q'h.out.mono ?_
    rintro e w4 ⟨rfl, d, rfl⟩
    have hB4 := hB3'h.out.trans (below_drewN' w3 d)
    obtain ⟨w4, hw4⟩ : ∃ w4, w4 = w3.drewN d := ⟨_, rfl⟩
    rw [← hw4] at hB4 ⊢
    clear hw4
    have hS4 := h'h.out.below hB4
    have hB4'h := Lib.hid hB4
    have hS4'h := Lib.hid hS4
    clear hB4 hS4
    go_wp2
    go_loopg [91] (n + 1) (fun q i wr => ∃ k : Nat, k + q = n + 1 ∧ k ≤ n ∧ i = .int .i64 k ∧ Below w4.heap.size w4 wr)
    case atStart => exact ⟨0, by omega, by omega, rfl, Below.refl _ _⟩
    case round =>
      obtain ⟨k, hk, hkn, rfl, hB⟩ := hrel
      by_cases hlt : k < n ∧ k ≠ 10
      · obtain ⟨hlt, h10⟩ := hlt
        have hkl : k < zs.length := by have := hlen'h.out; omega
        obtain ⟨blk, off, rfl, hcs⟩ := (hS4'h.out.below hB).some' (by omega)
        have c1 : wr.cell? ⟨blk, off + k, none⟩ = some (.int .i64 (nthZ zs k)) := hcs k _ (i64s_at hkl)
        have hne : (((k : Int)) == 10) = false := by simp; omega
        clear hcs h10
        by_cases hi : 0 ≤ nthZ zs k ∧ nthZ zs k < G
        · obtain ⟨j, hj⟩ : ∃ j : Nat, nthZ zs k = (j : Int) := ⟨(nthZ zs k).toNat, by omega⟩
          rw [hj] at c1 hi
          have hjG : j < G := by omega
          have X1 := A1'h.out j wr hjG
          have X2 := fun W => P1'h.out j W hjG
          have X3 := fun W => A2'h.out j W hjG
          have X4 := fun W => P2'h.out j W hjG
          have e1 := ne_self (prB G x j)
          have e2 := ne_self (placeB G x j)
          have d1 : decide ((0 : Int) ≤ (j : Int)) = true := by rw [decide_eq_true_eq]; omega
          have d2 : decide ((j : Int) < (G : Int)) = true := by rw [decide_eq_true_eq]; omega
          generalize prB G x j = y1 at *
          generalize placeB G x j = y2 at *
          clear hi
          have hk'h := Lib.hid hk
          have hB'h := Lib.hid hB
          have X1'h := Lib.hid X1
          have X2'h := Lib.hid X2
          have X3'h := Lib.hid X3
          have X4'h := Lib.hid X4
          have hj'h := Lib.hid hj
          have hkl'h := Lib.hid hkl
          clear hk hB X1 X2 X3 X4 hj hkl
          go_wp2_with fail
          refine (X1'h.out).mono ?_
          rintro e w' ⟨rfl, rfl⟩
          go_wp2_with fail
          refine (X2'h.out _).mono ?_
          rintro e w5 ⟨rfl, hb5⟩
          go_wp2_with fail
          refine (X3'h.out _).mono ?_
          rintro e w' ⟨rfl, rfl⟩
          go_wp2_with fail
          refine (X4'h.out _).mono ?_
          rintro e w6 ⟨rfl, hb6⟩
          have hBf := below_next (below_next hB'h.out hb5) hb6
          clear hb5 hb6
          go_wp2
          go_roundg (gk - 1)
          case measure => have := hk'h.out; omega
          case rel => exact ⟨k + 1, by have := hk'h.out; omega, by omega, by go_num, hBf⟩
        · have X1 := A3'h.out (nthZ zs k) wr hi
          have X2 := fun W => P3'h.out (nthZ zs k) W hi
          generalize nthZ zs k = z at *
          by_cases hz0 : 0 ≤ z
          · have d1 : decide ((0 : Int) ≤ z) = true := by rw [decide_eq_true_eq]; omega
            have d2 : decide (z < (G : Int)) = false := by rw [decide_eq_false_iff_not]; omega
            clear hi
            have hk'h := Lib.hid hk
            have hB'h := Lib.hid hB
            have X1'h := Lib.hid X1
            have X2'h := Lib.hid X2
            have hkl'h := Lib.hid hkl
            have hz0'h := Lib.hid hz0
            clear hk hB X1 X2 hkl hz0
            go_wp2_with fail
            refine (X1'h.out).mono ?_
            rintro e w' ⟨rfl, rfl⟩
            go_wp2_with fail
            refine (X2'h.out _).mono ?_
            rintro e w5 ⟨rfl, hb5⟩
            have hBf := below_next hB'h.out hb5
            clear hb5
            go_wp2
            go_roundg (gk - 1)
            case measure => have := hk'h.out; omega
            case rel => exact ⟨k + 1, by have := hk'h.out; omega, by omega, by go_num, hBf⟩
          · have d1 : decide ((0 : Int) ≤ z) = false := by rw [decide_eq_false_iff_not]; omega
            clear hi
            have hk'h := Lib.hid hk
            have hB'h := Lib.hid hB
            have X1'h := Lib.hid X1
            have X2'h := Lib.hid X2
            have hkl'h := Lib.hid hkl
            have hz0'h := Lib.hid hz0
            clear hk hB X1 X2 hkl hz0
            go_wp2_with fail
            refine (X1'h.out).mono ?_
            rintro e w' ⟨rfl, rfl⟩
            go_wp2_with fail
            refine (X2'h.out _).mono ?_
            rintro e w5 ⟨rfl, hb5⟩
            have hBf := below_next hB'h.out hb5
            clear hb5
            go_wp2
            go_roundg (gk - 1)
            case measure => have := hk'h.out; omega
            case rel => exact ⟨k + 1, by have := hk'h.out; omega, by omega, by go_num, hBf⟩
      · by_cases hlt2 : k < n
        · obtain rfl : k = 10 := by omega
          have hkl : 10 < zs.length := by have := hlen'h.out; omega
          obtain ⟨blk, off, rfl, hcs⟩ := (hS4'h.out.below hB).some' (by omega)
          have c1 : wr.cell? ⟨blk, off + 10, none⟩ = some (.int .i64 (nthZ zs 10)) := hcs 10 _ (i64s_at hkl)
          clear hcs hlt
          have hk'h := Lib.hid hk
          have hB'h := Lib.hid hB
          have hkl'h := Lib.hid hkl
          clear hk hB hkl
          go_wp2
          go_ret
          exact ⟨rfl, hB4'h.out.trans (hB'h.out.mono hB4'h.out.size)⟩
        · have hd : ¬ ((k : Int) < (n : Int)) := by omega
          clear hlt
          have hk'h := Lib.hid hk
          have hB'h := Lib.hid hB
          clear hk hB
          go_wp2
          go_ret
          exact ⟨rfl, hB4'h.out.trans (hB'h.out.mono hB4'h.out.size)⟩
end Go.Proofs.Ytkeegafebnhcpaa
