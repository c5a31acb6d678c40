/-
  Package hash: the functions that reckon, each by its contract.
-/
import Derived.Test.YtpfpgjfcomkdgaaBase
import Derived.Test.YtpfpgjfcomkdgaaHashPure
import Derived.Test.YtpfpgjfcomkdgaaHashBits
import Derived.Deep.LoopGhost
import Derived.ScopeJumps
set_option linter.unusedSimpArgs false
set_option linter.unusedVariables false
namespace Go.Proofs.Ytpfpgjfcomkdgaa
open Go.RowKit

theorem times_any (x n : Nat) (w : World) : Calls Try.prog 31 #[.int .u64 x, .int .u64 n] w fun e w' => e = .returned (.int .u64 (hMul x n)) ∧ w' = w := by
  have hq : IntKind.u64.wrap ((x : Int) * (n : Int)) = ((hMul x n : Nat) : Int) := by unfold hMul; rw [IntKind.wrap_u64]; omega
  have HQ := Lib.hid hq
  clear hq
  go_enter Try.func31, Try.ntmps31
  go_wp2
  go_ret
  exact ⟨ret_u64 HQ.out, rfl⟩

theorem xor_u64_div (x y b : Nat) (hx : x < 2 ^ 64) (hy : y < 2 ^ 64) : bits .xor .u64 (x : Int) ((y : Int) / 2 ^ b) = ((x ^^^ y / 2 ^ b : Nat) : Int) := by
  have e : ((y : Int) / 2 ^ b) = ((y / 2 ^ b : Nat) : Int) := by rw [Int.natCast_ediv, Int.natCast_pow]; rfl
  rw [e, xor_u64_lit _ _ hx (Nat.lt_of_le_of_lt (Nat.div_le_self _ _) hy)]
theorem folded_any (x b : Nat) (w : World) (hx : x < 2 ^ 64) (hb : b < 64) : Calls Try.prog 32 #[.int .u64 x, .int .i64 b] w fun e w' => e = .returned (.int .u64 (hFold x b)) ∧ w' = w := by
  have HX := Lib.hid hx
  clear hx
  go_enter Try.func32, Try.ntmps32
  go_wp2
  go_ret
  refine ⟨ret_u64 ?_, rfl⟩
  exact xor_u64_div x x b HX.out HX.out

def unf (x b : Nat) : Nat → Nat
  | 0 => x
  | k + 1 => x ^^^ unf x b k / 2 ^ b
theorem unf_lt {x : Nat} (b : Nat) (hx : x < 2 ^ 64) : ∀ k, unf x b k < 2 ^ 64
  | 0 => hx
  | k + 1 => Nat.xor_lt_two_pow hx (Nat.lt_of_le_of_lt (Nat.div_le_self _ _) (unf_lt b hx k))
theorem unfolded_any (x b : Nat) (w : World) (hx : x < 2 ^ 64) (hb : b = 29 ∨ b = 32) : Calls Try.prog 35 #[.int .u64 x, .int .i64 b] w fun e w' => e = .returned (.int .u64 (hUnfold x b)) ∧ w' = w := by
  have hb64 : b < 64 := by omega
  have hdiv : IntKind.i64.wrap (Int.tdiv 64 (b : Int)) = 2 := by rcases hb with rfl | rfl <;> decide
  have hb0 : decide ((b : Int) = 0) = false := by rcases hb with rfl | rfl <;> decide
  have hb1 : ¬ (b : Int) = 0 := by omega
  have hb2 : ¬ b = 0 := by omega
  have hdiv' : (Int.tdiv 64 (b : Int)) = 2 := by rcases hb with rfl | rfl <;> decide
  have HX := Lib.hid hx
  have hdec : unf x b 2 = hUnfold x b := rfl
  have HD := Lib.hid hdec
  have HB := Lib.hid hb
  clear hx hb hdec
  go_enter Try.func35, Try.ntmps35
  go_wp2
  go_loopg [5, 9] 2 (fun q y i wr => ∃ k : Nat, k + q = 2 ∧ i = .int .i64 k ∧ y = .int .u64 (unf x b k) ∧ wr = w)
  case atStart => exact ⟨0, rfl, rfl, rfl, rfl⟩
  case round =>
    obtain ⟨k, hk, rfl, rfl, rfl⟩ := hrel
    have HK := Lib.hid hk
    have hk2 : k ≤ 2 := by omega
    clear hk
    by_cases h8 : k < 2
    · have hq := Lib.hid (xor_u64_div x (unf x b k) b HX.out (unf_lt b HX.out k))
      go_wp2
      go_roundg (gk - 1)
      case measure => have := HK.out; omega
      case rel => exact ⟨k + 1, by have := HK.out; omega, by go_num, by rw [show unf x b (k + 1) = x ^^^ unf x b k / 2 ^ b by rfl, ← hq.out], rfl⟩
    · have hkk : k = 2 := by omega
      have HKK := Lib.hid hkk
      clear hkk
      go_wp2
      go_ret
      refine ⟨ret_u64 ?_, rfl⟩
      rw [← HD.out, HKK.out]

def backK (n : Nat) : Nat → Nat
  | 0 => n
  | k + 1 => backK n k * ((2 + 2 ^ 64 - n * backK n k % 2 ^ 64) % 2 ^ 64) % 2 ^ 64
theorem backK_int (n k : Nat) : IntKind.u64.wrap ((backK n k : Int) * IntKind.u64.wrap (2 - IntKind.u64.wrap ((n : Int) * (backK n k : Int)))) = ((backK n (k + 1) : Nat) : Int) := by
  show _ = ((backK n k * ((2 + 2 ^ 64 - n * backK n k % 2 ^ 64) % 2 ^ 64) % 2 ^ 64 : Nat) : Int)
  generalize backK n k = x
  simp only [IntKind.wrap_u64]
  have h1 : ((n : Int) * (x : Int)) % 18446744073709551616 = ((n * x % 2 ^ 64 : Nat) : Int) := by omega
  rw [h1]
  have hl : n * x % 2 ^ 64 < 2 ^ 64 := Nat.mod_lt _ (by decide)
  generalize n * x % 2 ^ 64 = y at hl
  have h2 : (2 - (y : Int)) % 18446744073709551616 = (((2 + 2 ^ 64 - y) % 2 ^ 64 : Nat) : Int) := by omega
  rw [h2]
  generalize (2 + 2 ^ 64 - y) % 2 ^ 64 = z
  rw [← Int.natCast_mul]; omega
def turnsAt (a : Act) : Nat := match a.tmps.getD 4 undef with | .int _ k => 5 - k.toNat | _ => 0
theorem back_any (n : Nat) (w : World) : Calls Try.prog 36 #[.int .u64 n] w fun e w' => e = .returned (.int .u64 (backK n 5)) ∧ w' = w := by
  have h0 : backK n 0 = n := rfl
  go_enter Try.func36, Try.ntmps36
  go_wp2
  refine wp_scope_jumps 0 (fun a' w' => w' = w ∧ ∃ (k : Nat) (u5 u6 u7 u8 u9 u10 u11 u12 u13 u14 u15 u16 : Value), a' = { tmps := #[.int .u64 n, undef, .int .u64 0, .int .u64 (backK n k), .int .i64 k, u5, u6, u7, u8, u9, u10, u11, u12, u13, u14, u15, u16], defers := [] } ∧ 1 ≤ k ∧ k ≤ 4) (fun a' _ => turnsAt a') rfl ?_ ?_
  · have hb := backK_int n 0
    rw [h0] at hb
    go_wp2
    go_step3
    go_wp2
    go_step3
    exact ⟨rfl, rfl, 1, _, _, _, _, _, _, _, _, _, _, _, _, by rw [← hb]; rfl, by decide, by decide⟩
  · rintro a' w' ⟨rfl, k, u5, u6, u7, u8, u9, u10, u11, u12, u13, u14, u15, u16, rfl, hk1, hk4⟩
    have hb := backK_int n k
    by_cases h4 : k = 4
    · subst h4
      go_wp2
      simp only [Exit.jump]
      go_ret
      exact ⟨rfl, rfl⟩
    · have hk : k < 4 := by omega
      go_wp2
      go_step3
      refine ⟨rfl, ⟨rfl, k + 1, _, _, _, _, _, _, _, _, _, _, _, _, by rw [← hb]; rfl, by omega, by omega⟩, ?_⟩
      simp [turnsAt]
      omega
theorem back_two : backK hTwo 5 = hTwoBack := by decide +kernel
theorem back_one : backK hOne 5 = hOneBack := by decide +kernel

theorem of_any (seed key : Nat) (w : World) (hs : seed < 2 ^ 64) (hk : key < 2 ^ 64) : Calls Try.prog 10 #[.int .u64 seed, .int .u64 key] w fun e w' => e = .returned (.int .u64 (hOf seed key)) ∧ w' = w := by
  have H1 := Lib.hid (times_any (key ^^^ seed) hOne w)
  have H2 := Lib.hid (folded_any (hMul (key ^^^ seed) hOne) 32 w (hMul_lt _ _) (by decide))
  have H3 := Lib.hid (times_any (hFold (hMul (key ^^^ seed) hOne) 32) hTwo w)
  have H4 := Lib.hid (folded_any (hMul (hFold (hMul (key ^^^ seed) hOne) 32) hTwo) 29 w (hMul_lt _ _) (by decide))
  have hx := xor_u64_lit key seed hk hs
  have HX := Lib.hid hx
  clear hx hs hk
  go_enter Try.func10, Try.ntmps10
  go_wp2_with fail
  rw [HX.out]
  refine H1.out.mono ?_
  rintro e w' ⟨rfl, rfl⟩
  go_wp2_with fail
  refine H2.out.mono ?_
  rintro e w' ⟨rfl, rfl⟩
  go_wp2_with fail
  refine H3.out.mono ?_
  rintro e w' ⟨rfl, rfl⟩
  go_wp2_with fail
  refine H4.out.mono ?_
  rintro e w' ⟨rfl, rfl⟩
  go_wp2
  go_ret
  exact ⟨rfl, rfl⟩

theorem key_any (seed h : Nat) (w : World) (hs : seed < 2 ^ 64) (hh : h < 2 ^ 64) : Calls Try.prog 12 #[.int .u64 seed, .int .u64 h] w fun e w' => e = .returned (.int .u64 (hKey seed h)) ∧ w' = w := by
  have H1 := Lib.hid (unfolded_any h 29 w hh (.inl rfl))
  have H2 := Lib.hid (back_any hTwo w)
  have H3 := Lib.hid (times_any (hUnfold h 29) hTwoBack w)
  have H4 := Lib.hid (unfolded_any (hMul (hUnfold h 29) hTwoBack) 32 w (hMul_lt _ _) (.inr rfl))
  have H5 := Lib.hid (back_any hOne w)
  have H6 := Lib.hid (times_any (hUnfold (hMul (hUnfold h 29) hTwoBack) 32) hOneBack w)
  have HX := Lib.hid (xor_u64_lit (hMul (hUnfold (hMul (hUnfold h 29) hTwoBack) 32) hOneBack) seed (hMul_lt _ _) hs)
  rw [back_two] at H2
  rw [back_one] at H5
  clear hs hh
  go_enter Try.func12, Try.ntmps12
  go_wp2_with fail
  refine H1.out.mono ?_
  rintro e w' ⟨rfl, rfl⟩
  go_wp2_with fail
  refine H2.out.mono ?_
  rintro e w' ⟨rfl, rfl⟩
  go_wp2_with fail
  refine H3.out.mono ?_
  rintro e w' ⟨rfl, rfl⟩
  go_wp2_with fail
  refine H4.out.mono ?_
  rintro e w' ⟨rfl, rfl⟩
  go_wp2_with fail
  refine H5.out.mono ?_
  rintro e w' ⟨rfl, rfl⟩
  go_wp2_with fail
  refine H6.out.mono ?_
  rintro e w' ⟨rfl, rfl⟩
  go_wp2
  go_ret
  exact ⟨ret_u64 HX.out, rfl⟩

theorem h1_any (h : Nat) (w : World) : Calls Try.prog 14 #[.int .u64 h] w fun e w' => e = .returned (.int .u64 (h / 128 : Nat)) ∧ w' = w := by
  go_enter Try.func14, Try.ntmps14
  go_wp2
  go_ret
  exact ⟨ret_u64 (by omega), rfl⟩
theorem h2_any (h : Nat) (w : World) (hh : h < 2 ^ 64) : Calls Try.prog 16 #[.int .u64 h] w fun e w' => e = .returned (.int .u8 (h % 128 : Nat)) ∧ w' = w := by
  have hx : bits .and .u64 (h : Int) 127 = ((h % 128 : Nat) : Int) := by
    have := and_u64_lit h 127 hh (by decide)
    rw [show ((127 : Nat) : Int) = 127 by rfl] at this
    rw [this, show h &&& 127 = h % 2 ^ 7 from Nat.and_two_pow_sub_one_eq_mod h 7]
  have HX := Lib.hid hx
  clear hx hh
  go_enter Try.func16, Try.ntmps16
  go_wp2
  go_ret
  refine ⟨ret_u8 ?_, rfl⟩
  rw [HX.out]
  omega
def mayN (n : Int) : Bool := decide (0 ≤ n ∧ n ≤ 64)
theorem may_any (n : Int) (w : World) : Calls Try.prog 39 #[.int .i64 n] w fun e w' => e = .returned (.bool (mayN n)) ∧ w' = w := by
  by_cases h0 : 0 ≤ n
  · have h0' : decide (0 ≤ n) = true := by simpa using h0
    go_enter Try.func39, Try.ntmps39
    go_wp2
    go_ret
    exact ⟨ret_bool (by simp [mayN, h0]), rfl⟩
  · have h0' : decide (0 ≤ n) = false := by simpa using h0
    go_enter Try.func39, Try.ntmps39
    go_wp2
    go_ret
    exact ⟨ret_bool (by simp [mayN]; omega), rfl⟩
theorem prefix_any (h n : Nat) (w : World) (hh : h < 2 ^ 64) (hn : n ≤ 64) : Calls Try.prog 40 #[.int .u64 h, .int .i64 n] w fun e w' => e = .returned (.int .u64 (hPrefix h n)) ∧ w' = w := by
  have HH := Lib.hid hh
  clear hh
  go_enter Try.func40, Try.ntmps40
  go_wp2
  go_ret
  refine ⟨ret_u64 ?_, rfl⟩
  unfold hPrefix
  rw [Int.natCast_ediv, Int.natCast_pow]; rfl

theorem prefix_yes (h n : Nat) (w : World) (hh : h < 2 ^ 64) (hn : n ≤ 64) : Calls Try.prog 18 #[.int .u64 h, .int .i64 n] w fun e w' => e = .returned (.tuple #[.int .u64 (hPrefix h n), .int .i64 0]) ∧ w' = w := by
  have H1 := Lib.hid (may_any n w)
  have hm : mayN n = true := by simp [mayN]; omega
  have HM := Lib.hid hm
  have H2 := Lib.hid (prefix_any h n w hh hn)
  clear hm hh hn
  go_enter Try.func18, Try.ntmps18
  go_wp2_with fail
  refine H1.out.mono ?_
  rw [HM.out]
  rintro e w' ⟨rfl, rfl⟩
  go_wp2_with fail
  refine H2.out.mono ?_
  rintro e w' ⟨rfl, rfl⟩
  go_wp2
  go_ret2
  exact ⟨rfl, rfl⟩
theorem prefix_no (h : Nat) (n : Int) (w : World) (hn : mayN n = false) : Calls Try.prog 18 #[.int .u64 h, .int .i64 n] w fun e w' => e = .returned (.tuple #[.int .u64 0, .int .i64 2]) ∧ w' = w := by
  have H1 := Lib.hid (may_any n w)
  have HM := Lib.hid hn
  clear hn
  go_enter Try.func18, Try.ntmps18
  go_wp2_with fail
  refine H1.out.mono ?_
  rw [HM.out]
  rintro e w' ⟨rfl, rfl⟩
  go_wp2
  go_ret2
  exact ⟨rfl, rfl⟩
theorem parts_any (a b : Nat) (w : World) (ha : a < 2 ^ 64) (hb : b < 2 ^ 64) : Calls Try.prog 21 #[.int .u64 a, .int .u64 b] w fun e w' => e = .returned (.int .i64 (hParts a b)) ∧ w' = w := by
  have hx := Nat.xor_lt_two_pow ha hb
  have H1 := Lib.hid (lz64_any (a ^^^ b) w hx)
  have HX := Lib.hid (xor_u64_lit a b ha hb)
  have hle := Lib.hid (bitLen_le64 hx)
  clear hx ha hb
  go_enter Try.func21, Try.ntmps21
  go_wp2_with fail
  rw [HX.out]
  refine H1.out.mono ?_
  rintro e w' ⟨rfl, rfl⟩
  go_wp2
  go_ret
  refine ⟨ret_i64 ?_, rfl⟩
  have := hle.out
  unfold hParts
  omega
end Go.Proofs.Ytpfpgjfcomkdgaa
