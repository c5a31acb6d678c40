/-
  Package hash: the functions that reckon, each by its contract.
-/
import Derived.Test.YtoklgjlmjkhmbaaBase
import Derived.Test.YtoklgjlmjkhmbaaHashPure
import Derived.Test.YtoklgjlmjkhmbaaHashBits
import Derived.Deep.LoopGhost
import Derived.ScopeJumps
set_option linter.unusedSimpArgs false
set_option linter.unusedVariables false
namespace Go.Proofs.Ytoklgjlmjkhmbaa
open Go.RowKit

theorem xor_u64_div (x y b : Nat) (hx : x < 2 ^ 64) (hy : y < 2 ^ 64) : bits .xor .u64 (x : Int) ((y : Int) / 2 ^ b) = ((x ^^^ y / 2 ^ b : Nat) : Int) := by
  have e : ((y : Int) / 2 ^ b) = ((y / 2 ^ b : Nat) : Int) := by rw [Int.natCast_ediv, Int.natCast_pow]; rfl
  rw [e, xor_u64_lit _ _ hx (Nat.lt_of_le_of_lt (Nat.div_le_self _ _) hy)]
def unf (x b : Nat) : Nat → Nat
  | 0 => x
  | k + 1 => x ^^^ unf x b k / 2 ^ b
theorem unf_lt {x : Nat} (b : Nat) (hx : x < 2 ^ 64) : ∀ k, unf x b k < 2 ^ 64
  | 0 => hx
  | k + 1 => Nat.xor_lt_two_pow hx (Nat.lt_of_le_of_lt (Nat.div_le_self _ _) (unf_lt b hx k))
def backK (n : Nat) : Nat → Nat
  | 0 => n
  | k + 1 => backK n k * ((2 + 2 ^ 64 - n * backK n k % 2 ^ 64) % 2 ^ 64) % 2 ^ 64
theorem backK_int (n k : Nat) : IntKind.u64.wrap ((backK n k : Int) * IntKind.u64.wrap (2 - IntKind.u64.wrap ((n : Int) * (backK n k : Int)))) = ((backK n (k + 1) : Nat) : Int) := by
  show _ = ((backK n k * ((2 + 2 ^ 64 - n * backK n k % 2 ^ 64) % 2 ^ 64) % 2 ^ 64 : Nat) : Int)
  generalize backK n k = x
  simp only [IntKind.wrap_u64]
  have h1 : ((n : Int) * (x : Int)) % 18446744073709551616 = ((n * x % 2 ^ 64 : Nat) : Int) := by omega
  rw [h1]
  have hl : n * x % 2 ^ 64 < 2 ^ 64 := Nat.mod_lt _ (by decide)
  generalize n * x % 2 ^ 64 = y at hl
  have h2 : (2 - (y : Int)) % 18446744073709551616 = (((2 + 2 ^ 64 - y) % 2 ^ 64 : Nat) : Int) := by omega
  rw [h2]
  generalize (2 + 2 ^ 64 - y) % 2 ^ 64 = z
  rw [← Int.natCast_mul]; omega
def turnsAt (a : Act) : Nat := match a.tmps.getD 4 undef with | .int _ k => 5 - k.toNat | _ => 0
theorem back_two : backK hTwo 5 = hTwoBack := by decide +kernel
theorem back_one : backK hOne 5 = hOneBack := by decide +kernel

theorem h1_any (h : Nat) (w : World) : Calls Try.prog 31 #[.int .u64 h] w fun e w' => e = .returned (.int .u64 (h / 128 : Nat)) ∧ w' = w := by
  go_enter Try.func31, Try.ntmps31
  go_wp2
  go_ret
  exact ⟨ret_u64 (by omega), rfl⟩
theorem h2_any (h : Nat) (w : World) (hh : h < 2 ^ 64) : Calls Try.prog 33 #[.int .u64 h] w fun e w' => e = .returned (.int .u8 (h % 128 : Nat)) ∧ w' = w := by
  have hx : bits .and .u64 (h : Int) 127 = ((h % 128 : Nat) : Int) := by
    have := and_u64_lit h 127 hh (by decide)
    rw [show ((127 : Nat) : Int) = 127 by rfl] at this
    rw [this, show h &&& 127 = h % 2 ^ 7 from Nat.and_two_pow_sub_one_eq_mod h 7]
  have HX := Lib.hid hx
  clear hx hh
  go_enter Try.func33, Try.ntmps33
  go_wp2
  go_ret
  refine ⟨ret_u8 ?_, rfl⟩
  rw [HX.out]
  omega
def mayN (n : Int) : Bool := decide (0 ≤ n ∧ n ≤ 64)
end Go.Proofs.Ytoklgjlmjkhmbaa
