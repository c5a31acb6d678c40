/-
  ProbeSame, walked.
-/
import Derived.Test.YtkeegafebnhcpaaLawRows
set_option linter.unusedSimpArgs false
set_option linter.unusedVariables false
namespace Go.Proofs.Ytkeegafebnhcpaa
open Go.RowKit

theorem rowB_same {G x m : Nat} (hG : 0 < G) : rowB G (x % G + G * m) = rowB G x := by
  rw [← rowB_mod G (x % G + G * m), Nat.add_mul_mod_self_left, Nat.mod_mod, rowB_mod]
theorem tmod_nat (a b : Nat) : Int.tmod (a : Int) (b : Int) = ((a % b : Nat) : Int) := by rw [Int.tmod_eq_emod_of_nonneg (Int.natCast_nonneg _)]; rfl
set_option maxRecDepth 100000 in
set_option maxHeartbeats 2000000 in
theorem walk_ProbeSame (a0 a1 a2 : Int) (w : World) (w0 : (Lit.int .i64 a0).wf = true) (w1 : (Lit.int .u64 a1).wf = true) (w2 : (Lit.int .u64 a2).wf = true) :
    Calls Try.prog 4 #[.int .i64 a0, .int .u64 a1, .int .u64 a2] w fun e w' => e = .returned (.bool true) ∧ Below w.heap.size w w' := by
  obtain ⟨x, rfl, hx⟩ := nat_of_u64 w1
  obtain ⟨m, rfl, hm⟩ := nat_of_u64 w2
  have hbd := bd_of_i64 w0
  clear w0 w1 w2
  cases hg : goodG a0 with
  | false =>
    have R := fun w => row_no a0 x w hg hbd
    have hx'h := Lib.hid hx
    have hg'h := Lib.hid hg
    have hbd'h := Lib.hid hbd
    have R'h := Lib.hid R
    have hm'h := Lib.hid hm
    clear hx hg hbd R hm
    go_enter Try.func4, Try.ntmps4
    go_wp2_with fail
    refine (wakes_any _).mono ?_
    rintro e w1 ⟨rfl, hb1⟩
    go_wp2_with fail
    refine (R'h.out _).mono ?_
    rintro e w' ⟨rfl, rfl⟩
    go_wp2
    go_ret
    exact ⟨rfl, hb1⟩
  | true =>
    obtain ⟨G, rfl, hG⟩ := good_split hg
    have h1 := good_le hG
    have h0 := good_pos hG
    have R := fun w => row_yes G x w hG hx
    have hy64 : x % G + G * (m % 1000) < 2 ^ 64 := by
      have := Nat.mod_lt x h0
      have : G * (m % 1000) ≤ 64 * 1000 := Nat.mul_le_mul h1 (by omega)
      omega
    have RY := fun w => row_yes G (x % G + G * (m % 1000)) w hG hy64
    rw [rowB_same h0] at RY
    have R0 := fun w => row_yes G 0 w hG (by decide)
    have t1 := tmod_nat x G
    have t2 := tmod_nat m 1000
    have hxG := Nat.mod_lt x h0
    have hwG : IntKind.u64.wrap (G : Int) = (G : Int) := by rw [IntKind.wrap_u64]; omega
    have hs1 : IntKind.u64.wrap ((G : Int) * ((m % 1000 : Nat) : Int)) = ((G * (m % 1000) : Nat) : Int) := by
      rw [IntKind.wrap_u64, ← Int.natCast_mul]; omega
    have hs2 : IntKind.u64.wrap (((x % G : Nat) : Int) + ((G * (m % 1000) : Nat) : Int)) = ((x % G + G * (m % 1000) : Nat) : Int) := by
      rw [IntKind.wrap_u64]; omega
    have harg : IntKind.u64.wrap (((x % G : Nat) : Int) + IntKind.u64.wrap ((G : Int) * ((m : Int) % 1000))) = ((x % G + G * (m % 1000) : Nat) : Int) := by
      rw [← hs2, ← hs1]; rfl
    clear hs1 hs2
    have hsh := fun i => prB_shift G x i
    have hat := fun k (hk : k < G) => nth_row (h := x) hk
    have hat0 := fun k (hk : k < G) => nth_row (h := 0) hk
    have hlen := rowB_length G x
    have hlen0 := rowB_length G 0
    have hpl := fun i => prB_lt 0 i h0
    have t3 : ∀ i, Int.tmod ((prB G 0 i : Int) + ((x % G : Nat) : Int)) (G : Int) = (prB G x i : Int) := fun i => by
      rw [← prB_shift G x i, Int.tmod_eq_emod_of_nonneg (by omega)]; rfl
    have hx'h := Lib.hid hx
    have hm'h := Lib.hid hm
    have hg'h := Lib.hid hg
    have hbd'h := Lib.hid hbd
    have R'h := Lib.hid R
    have RY'h := Lib.hid RY
    have R0'h := Lib.hid R0
    have hG'h := Lib.hid hG
    have hsh'h := Lib.hid hsh
    have hat'h := Lib.hid hat
    have hat0'h := Lib.hid hat0
    have hlen'h := Lib.hid hlen
    have hlen0'h := Lib.hid hlen0
    have hpl'h := Lib.hid hpl
    have t3'h := Lib.hid t3
    have hy64'h := Lib.hid hy64
    have harg'h := Lib.hid harg
    clear hx hm hg hbd R RY R0 hG hsh hat hat0 hlen hlen0 hpl t3 hy64 harg
    generalize G * (m % 1000) = y1 at *
    generalize x % G = y0 at *
    generalize hmm : m % 1000 = m1 at *
    have hmm'h := Lib.hid hmm
    clear hmm
    go_enter Try.func4, Try.ntmps4
    go_wp2_with fail
    refine (wakes_any _).mono ?_
    rintro e w1 ⟨rfl, hb1⟩
    go_wp2_with fail
    refine (R'h.out _).mono ?_
    rintro e w2 ⟨rp, rc, rfl, hb2, hr2⟩
    have hB2 := below_next hb1 hb2
    have hsl2 := Sl.of_row hr2 (by unfold maxLen; omega)
    clear hb1 hb2 hr2
    have hB2'h := Lib.hid hB2
    have hsl2'h := Lib.hid hsl2
    clear hB2 hsl2
    go_wp2_with fail
    rw [harg'h.out]
    refine (RY'h.out _).mono ?_
    rintro e w3 ⟨qp, qc, rfl, hb3, hr3⟩
    have hB3 := below_next hB2'h.out hb3
    have hsl3 := Sl.of_row hr3 (by unfold maxLen; omega)
    have hsl23 := hsl2'h.out.below hb3
    clear hb3 hr3
    have hB3'h := Lib.hid hB3
    have hsl3'h := Lib.hid hsl3
    have hsl23'h := Lib.hid hsl23
    clear hB3 hsl3 hsl23
    go_wp2_with fail
    refine (R0'h.out _).mono ?_
    rintro e w4 ⟨sp, sc, rfl, hb4, hr4⟩
    have hB4 := below_next hB3'h.out hb4
    have hsl4 := Sl.of_row hr4 (by unfold maxLen; omega)
    have hsl24 := hsl23'h.out.below hb4
    have Q := equalI_any rp qp G G rc qc _ _ w4 hsl24 (hsl3'h.out.below hb4)
    rw [i64_self] at Q
    have hne := ne_self G
    clear hb4 hr4
    have hB4'h := Lib.hid hB4
    have hsl4'h := Lib.hid hsl4
    have hsl24'h := Lib.hid hsl24
    have Q'h := Lib.hid Q
    clear hB4 hsl4 hsl24 Q
    go_wp2_with fail
    refine Q'h.out.mono ?_
    rintro e w5 ⟨rfl, d, rfl⟩
    have hB5 := hB4'h.out.trans (below_drewN' w4 d)
    have hsl25 := hsl24'h.out.below (below_drewN' w4 d)
    have hsl5 := hsl4'h.out.below (below_drewN' w4 d)
    obtain ⟨w5, hw5⟩ : ∃ w5, w5 = w4.drewN d := ⟨_, rfl⟩
    rw [← hw5] at hB5 hsl25 hsl5 ⊢
    clear hw5
    have hB5'h := Lib.hid hB5
    have hsl25'h := Lib.hid hsl25
    have hsl5'h := Lib.hid hsl5
    clear hB5 hsl25 hsl5
    go_wp2
    go_loopg [71] G (fun q i wr => ∃ k : Nat, k + q = G ∧ i = .int .i64 k ∧ wr = w5)
    case atStart => exact ⟨0, by omega, rfl, rfl⟩
    case round =>
      obtain ⟨k, hk, rfl, rfl⟩ := hrel
      by_cases hkG : k < G
      · obtain ⟨b, off, rfl, hcs⟩ := hsl25'h.out.some' (by omega)
        obtain ⟨b2, off2, rfl, hcs2⟩ := hsl5'h.out.some' (by omega)
        have c1 : wr.cell? ⟨b, off + k, none⟩ = some (.int .i64 (prB G x k)) := by
          have := hcs k _ (zN_at (by rw [hlen'h.out]; exact hkG))
          rwa [hat'h.out k hkG] at this
        have c2 : wr.cell? ⟨b2, off2 + k, none⟩ = some (.int .i64 (prB G 0 k)) := by
          have := hcs2 k _ (zN_at (by rw [hlen0'h.out]; exact hkG))
          rwa [hat0'h.out k hkG] at this
        have hp := hpl'h.out k
        have t := t3'h.out k
        have t' : ((prB G 0 k : Int) + (y0 : Int)) % (G : Int) = (prB G x k : Int) := by
          rw [← t, Int.tmod_eq_emod_of_nonneg (by omega)]
        have e1 := ne_self (prB G x k)
        clear hcs hcs2
        generalize prB G 0 k = z0 at *
        generalize prB G x k = z1 at *
        have hk'h := Lib.hid hk
        clear hk
        go_wp2
        go_roundg (gk - 1)
        case measure => have := hk'h.out; omega
        case rel => exact ⟨k + 1, by have := hk'h.out; omega, by go_num, rfl⟩
      · have hd : ¬ ((k : Int) < (G : Int)) := by omega
        have hk'h := Lib.hid hk
        clear hk
        go_wp2
        go_ret
        exact ⟨rfl, hB5'h.out⟩
end Go.Proofs.Ytkeegafebnhcpaa
