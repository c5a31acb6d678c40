/-
  The library's sort at rows of uint64: the little random numbers.
-/
import Derived.Test.YtifofdciablljaaDoorSrtA
import Derived.Test.YtifofdciablljaaDoorHashBits
import Derived.Sort.Walk7a
set_option linter.unusedSimpArgs false
set_option linter.unusedVariables false
namespace Go.Proofs.YtifofdciablljaaDoor
open Go.RowKit Go.Sort

set_option maxHeartbeats 1600000 in
set_option maxRecDepth 100000 in
theorem next64 (rb ro X : Nat) (hX : X < 18446744073709551616) (w : World) (hc : w.cell? ⟨rb, ro, none⟩ = some (.int .u64 (X : Nat))) (hf : w.frozen? ⟨rb, ro, none⟩ = false) :
    Calls Tryd.prog 84 #[.pointer (some ⟨rb, ro, none⟩)] w fun e w' => e = .returned (.int .u64 (xorNextN X : Nat)) ∧ w' = (w.setCell ⟨rb, ro, none⟩ (.int .u64 (xorNextN X : Nat))).drewN 3 := by
  obtain ⟨p, q, r, hp, hq, hr, h1, h2, h3⟩ : ∃ p q r : Nat, p < 18446744073709551616 ∧ q < 18446744073709551616 ∧ r = xorNextN X ∧
      bits .xor .u64 (X : Int) (IntKind.u64.wrap ((X : Int) * 8192)) = (p : Int) ∧ bits .xor .u64 (p : Int) ((p : Int) / 128) = (q : Int) ∧ bits .xor .u64 (q : Int) (IntKind.u64.wrap ((q : Int) * 131072)) = (r : Int) := by
    have k1 : X * 8192 % 18446744073709551616 < 18446744073709551616 := Nat.mod_lt _ (by decide)
    have b1 : X ^^^ (X * 8192 % 18446744073709551616) < 18446744073709551616 := Nat.xor_lt_two_pow (n := 64) hX k1
    have b2 : (X ^^^ (X * 8192 % 18446744073709551616)) ^^^ ((X ^^^ (X * 8192 % 18446744073709551616)) / 128) < 18446744073709551616 := Nat.xor_lt_two_pow (n := 64) b1 (by omega)
    refine ⟨_, _, _, b1, b2, rfl, ?_, ?_, ?_⟩
    · rw [IntKind.wrap_u64, show ((X : Int) * 8192 % 18446744073709551616) = ((X * 8192 % 18446744073709551616 : Nat) : Int) by omega, bits_xor_u64_nat _ _ hX k1]
    · generalize X ^^^ (X * 8192 % 18446744073709551616) = P at b1 ⊢
      rw [show ((P : Int) / 128) = ((P / 128 : Nat) : Int) by omega, bits_xor_u64_nat _ _ b1 (by omega)]
    · unfold xorNextN
      simp only []
      generalize (X ^^^ (X * 8192 % 18446744073709551616)) ^^^ ((X ^^^ (X * 8192 % 18446744073709551616)) / 128) = Q at b2 ⊢
      rw [IntKind.wrap_u64, show ((Q : Int) * 131072 % 18446744073709551616) = ((Q * 131072 % 18446744073709551616 : Nat) : Int) by omega, bits_xor_u64_nat _ _ b2 (by omega)]
  rw [← hr]
  clear hr
  have again : ∀ v v', (w.setCell ⟨rb, ro, none⟩ v).setCell ⟨rb, ro, none⟩ v' = w.setCell ⟨rb, ro, none⟩ v' := setCell_setCell w rb ro
  go_enter Tryd.func84, Tryd.ntmps84
  go_wp2
  go_region
  all_goals go_wp2
  all_goals go_region
  all_goals go_wp2
  all_goals go_region
  all_goals go_wp2
  go_ret
  exact ⟨rfl, rfl⟩

set_option maxHeartbeats 1000000 in
theorem len_any (x : Nat) (w : World) (hx : x < 18446744073709551616) : Calls Tryd.prog 60 #[.int .u64 (x : Int)] w fun e w' => e = .returned (.int .i64 (bitsLen x : Nat)) ∧ w' = w := by
  have c := len64_any (x : Int) w (by omega) (by omega)
  rw [Int.toNat_natCast, bitLen_eq _ (by omega)] at c
  go_enter Tryd.func60, Tryd.ntmps60
  go_wp2_with (go_at_call 80; refine c.mono ?_; rintro e w' ⟨rfl, rfl⟩)
  go_ret
  exact ⟨rfl, rfl⟩
set_option maxHeartbeats 1000000 in
/-- 1 << bits.Len(uint(n)). -/
theorem pow64 (n : Nat) (hn : n < 4611686018427387904) (w : World) : Calls Tryd.prog 83 #[.int .i64 (n : Int)] w fun e w' => e = .returned (.int .u64 ((1 <<< bitsLen n : Nat) : Int)) ∧ w' = w := by
  have hk : bitsLen n ≤ 62 := (bitsLen_le_iff n 62).2 (by omega)
  have hp := wrap_two_pow (bitsLen n) hk
  go_enter Tryd.func83, Tryd.ntmps83
  go_wp2_with (go_at_call 60; refine (len_any n _ (by omega)).mono ?_; rintro e w' ⟨rfl, rfl⟩)
  go_ret
  exact ⟨rfl, rfl⟩
end Go.Proofs.YtifofdciablljaaDoor
